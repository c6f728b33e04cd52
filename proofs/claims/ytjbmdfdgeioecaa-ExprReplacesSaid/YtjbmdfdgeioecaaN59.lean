/- ExprReplaces: what the law gives. -/
import Derived.Test.YtjbmdfdgeioecaaSmall
import Derived.Test.YtjbmdfdgeioecaaN58
import Derived.Test.YtjbmdfdgeioecaaN54
namespace Go.Proofs.Ytjbmdfdgeioecaa.X
open Go.Proofs.Ytjbmdfdgeioecaa.Am Go.Proofs.Ytjbmdfdgeioecaa.F
set_option linter.unusedVariables false
set_option linter.unusedSimpArgs false
set_option maxRecDepth 100000
set_option maxHeartbeats 1000000
/-- Different numbers within a range are no more than the range. -/
theorem nodup_range : ∀ (N : Nat) (l : List Int), l.Nodup → (∀ n ∈ l, 0 ≤ n ∧ n < N) → l.length ≤ N
  | 0, [], _, _ => Nat.le_refl _
  | 0, x :: l, _, h => by have := h x (by simp); omega
  | N + 1, l, hd, h => by
    by_cases hm : (N : Int) ∈ l
    · have h1 := List.length_erase_of_mem hm
      have h2 := nodup_range N (l.erase (N : Int)) (hd.erase _) (fun n hn => by
        obtain ⟨g1, g2⟩ := (List.Nodup.mem_erase_iff hd).mp hn
        have := h n g2
        omega)
      have h3 := List.length_pos_of_mem hm
      omega
    · have := nodup_range N l hd (fun n hn => by
        have := h n hn
        have hne : n ≠ (N : Int) := fun q => hm (q ▸ hn)
        omega)
      omega
theorem kinds_get {l : List V} {i : Nat} {u : Int} (h : (kindsOf l)[i]? = some u) : ∃ v, l[i]? = some v ∧ v.kind = u := by
  unfold kindsOf at h
  rw [List.getElem?_map] at h
  cases hg : l[i]? with
  | none => rw [hg] at h; cases h
  | some v => rw [hg] at h; exact ⟨v, rfl, by simpa using h⟩
/-- The list's values for the row. -/
abbrev valsOf (fs : List Fn) (time : Int) (row : List V) (l : List E) : List V := l.map (evD fs time fs.length row [])
theorem vals_ty {fs : List Fn} {time : Int} {row : List V} {l : List E} (h : ∀ x ∈ l, goodB fs x row = true) : ∀ (i : Nat) (u : Int), (kindsOf (valsOf fs time row l))[i]? = some u → ∃ x, l[i]? = some x ∧ ty fs (kindsOf row) [] x = some u := by
  intro i u hu
  obtain ⟨v, hv, rfl⟩ := kinds_get hu
  rw [List.getElem?_map] at hv
  cases hg : l[i]? with
  | none => rw [hg] at hv; cases hv
  | some x =>
    rw [hg] at hv
    simp only [Option.map_some, Option.some.injEq] at hv
    subst hv
    obtain ⟨t, G⟩ := good_of (h x (List.mem_of_getElem? hg))
    have hk := (good_eval (time := time) G).2.kind
    exact ⟨x, rfl, by rw [hk]; exact G.ty⟩
theorem repl_ok {fs : List Fn} {time : Int} {row : List V} {l : List E} {e x : E} {t : Int} (h : ∀ x ∈ l, goodB fs x row = true) (ht : ty fs (kindsOf (valsOf fs time row l)) [] e = some t) (hx : replE e l = some x) :
    ty fs (kindsOf row) [] x = some t ∧ evD fs time fs.length row [] x = evD fs time fs.length (valsOf fs time row l) [] e ∧ putE 3 l e = some x := by
  obtain ⟨y, p1, p2, p3⟩ := put3 (cl := evC fs time fs.length) (time := time) (row := row) (us := l) (vals_ty h) e t ht
  unfold replE at hx
  rw [p1] at hx
  simp only at hx
  split at hx
  · cases hx
  · cases hx
    exact ⟨p2, p3, p1⟩
theorem goodB_parts {fs : List Fn} {e : E} {row : List V} (h : goodB fs e row = true) : parts e ≤ 100 := by
  unfold goodB at h
  simp only [Bool.and_eq_true, Bool.not_eq_true', decide_eq_false_iff_not, decide_eq_true_eq] at h
  have := light_parts e 100 20 (by omega)
  omega
abbrev lpSt (fs : List Fn) (e : E) (l : List E) (time : Int) (row vals : List V) (i : Int) : St := lReplaces_t6 (slF fs) (slE l) (I time) (slV row) (.ptr none 6 0) (B true) (mkOwn 49 (vs vals)) (I i) [⟨[(6, emem e)], [(49, rowT (vs vals) 3)]⟩]
theorem vs_snoc (l : List V) (v : V) : vs l ++ [.agg [.int .i64 v.kind, .int .i64 v.n, .str v.s]] = vs (l ++ [v]) := by
  unfold vs
  rw [List.map_append, List.map_cons, List.map_nil]
  rfl
theorem vs_len (l : List V) : (vs l).length = l.length := List.length_map _
theorem lp_end {fs : List Fn} {e : E} {l : List E} {time : Int} {row : List V} (hn : fs.length ≤ LIM) (h12 : l.length ≤ 12) (h : ∀ x ∈ l, goodB fs x row = true) (st : St)
    (hst : St.forget (lReplaces_h.at 6) st = lpSt fs e l time row (valsOf fs time row l) l.length) :
    leaveR PP lReplaces_rs 0 (thenC (blockC 0 (lReplaces_L 6 st)) (acodeX PP RR [] lReplaces_L lReplaces_k6)) = some (B true, []) := by
  have hvl : (valsOf fs time row l).length = l.length := List.length_map _
  have hg := good_ok (fs := fs) (e := e) (row := valsOf fs time row l) hn (by simp only [LIM]; omega)
  rw [lReplaces_q6, hst]
  delta lpSt
  simp only [show slV (valsOf fs time row l) = .pv (.slc (vs (valsOf fs time row l))) from rfl, av_e e] at hg
  cases hb : goodB fs e (valsOf fs time row l)
  · rw [hb] at hg
    generalize vs (valsOf fs time row l) = Y at hg ⊢
    rw [lReplaces_e6]; simp only [lReplaces_k6, lReplaces_l6, lReplaces_b, lReplaces_rs, Try.f8, Int.lt_irrefl, hg, F.EVT, Am.splice, Am.enterN, Am.freshMem, Am.cA, Am.cB, Am.cK, Am.cL, Am.cS, Am.cT, Am.cE, Am.aresults, Am.aresult, Am.codeKey, Am.frzTop, Am.spliceP, Nat.reduceAdd, Nat.reduceLeDiff, Nat.reduceBEq, Nat.reduceEqDiff, reduceIte, reduceCtorEq, Nat.reduceSub, Int.reduceBEq, Int.reduceSub, Int.reduceAdd, Int.reduceToNat, Int.reduceLT, Int.reduceLE, Int.reduceEq, Int.reduceNeg, Int.reduceBNe, Int.reduceGT, Int.reduceGE, Nat.reduceMul, Nat.reduceMod, Nat.reduceDiv]
    try rfl
  rw [hb] at hg
  obtain ⟨t, G⟩ := good_of hb
  have hp := goodB_parts hb
  have hx := xEval_ok (good_eval (time := time) G).1
  have hR := xReplace_ok (e := e) (l := l) (K := 100) (by omega) (fun x hx => goodB_parts (h x hx)) (by have := Nat.mul_le_mul_right 100 hp; omega)
  have hI := xInline_ok G (by omega)
  -- what replaces
  have hrep : ∃ (x : E) (b : Bool), opAV (replE e l) = .tup [x.av, B b] ∧ (b = true → parts x ≤ 10000 ∧ RR 13 [slF fs, x.av, I time, slV row] [] = some ((evD fs time fs.length (valsOf fs time row l) [] e).av, [])) := by
    cases hq : replE e l with
    | none => exact ⟨E.z, false, rfl, fun q => by cases q⟩
    | some x =>
      refine ⟨x, true, rfl, fun _ => ?_⟩
      obtain ⟨g1, g2, g3⟩ := repl_ok h G.ty hq
      have hpx := putE_parts (K := 100) (by omega) (fun x hx => goodB_parts (h x hx)) e x g3
      have hpx2 := Nat.mul_le_mul_right 100 hp
      refine ⟨by omega, ?_⟩
      rw [← g2]
      refine xEval_ok ?_
      by_cases hl0 : l = []
      · subst hl0
        obtain ⟨y, p1, p2, p3⟩ := put3 (cols := []) (cl := evC fs time fs.length) (time := time) (row := row) (us := []) (ts := []) (fun i u hu => by simp at hu) e t G.ty
        rw [p1] at g3
        cases g3
        exact (ev_okP (time := time) G.fns fs.length (Nat.le_refl _) (row := row) (cols := []) (fun i u hu => by simp at hu) (params := []) (ps := []) trivial x t (by omega) (by rw [List.take_length]; exact p2)).1
      · obtain ⟨x0, hx0⟩ := List.exists_mem_of_ne_nil l hl0
        obtain ⟨t0, G0⟩ := good_of (h x0 hx0)
        exact (ev_ok (time := time) G0.fns fs.length (Nat.le_refl _) G0.fits (params := []) (ps := []) trivial x t (by omega) (by rw [List.take_length]; exact g1)).1
  have hinl : ∃ (y : E) (b : Bool), opAV (inlE fs e) = .tup [y.av, B b] ∧ (b = true → RR 13 [slF [], y.av, I time, slV (valsOf fs time row l)] [] = some ((evD fs time fs.length (valsOf fs time row l) [] e).av, []) ∧
      ∃ ps : List Int, ps.length ≤ l.length ∧ RR 29 [y.av] [] = some (.pv (.slc (ints ps)), [])) := by
    cases hq : inlE fs e with
    | none => exact ⟨E.z, false, rfl, fun q => by cases q⟩
    | some y =>
      refine ⟨y, true, rfl, fun _ => ?_⟩
      obtain ⟨g1, g2, g3⟩ := inl_ok G.fns (time := time) (row := valsOf fs time row l) G.ty hq
      have hFn : FnsOK ([] : List Fn) := fun n f hf => by simp at hf
      have hcl : (kindsOf (valsOf fs time row l)).length = l.length := by unfold kindsOf; rw [List.length_map, hvl]
      have hrange : ∀ n, readsN n y = true → 0 ≤ n ∧ n < l.length := fun n hn => by
        have := (all_reads y (ty_all y t g1) hn).2.1 rfl
        rw [hcl] at this
        exact this
      refine ⟨?_, sortI (colsE [] y), ?_, xReads_ok (by omega) fun n hn => wfI_ok ?_⟩
      · rw [← g2]
        exact xEval_ok (ev_ok (time := time) hFn 0 (Nat.le_refl _) G.fits (params := []) (ps := []) trivial y t (by omega) (by simpa using g1)).1
      · have h2 := (List.mergeSort_perm (colsE [] y) leI).length_eq
        unfold sortI
        rw [h2]
        refine nodup_range _ _ (colsE_nodup [] y List.nodup_nil) fun n hn => hrange n ?_
        rcases (colsE_mem n [] y).mp hn with hn | hn
        · cases hn
        · exact hn
      · have := hrange n hn
        simp only [wfI, Bool.and_eq_true, decide_eq_true_eq]
        omega
  obtain ⟨x, b1, hx1, hx2⟩ := hrep
  obtain ⟨y, b2, hy1, hy2⟩ := hinl
  rw [hx1] at hR
  rw [hy1] at hI
  have hvl2 : (vs (valsOf fs time row l)).length = l.length := by rw [vs_len, hvl]
  have hS := rSteps_ok (fs := fs) (e := x) (by have := G.fair; unfold fairB at this; simp only [Bool.and_eq_true, decide_eq_true_eq] at this; omega)
  generalize evD fs time fs.length (valsOf fs time row l) [] e = w at hx hx2 hy2
  have hvb := vbeq_self w
  unfold V.beq at hvb
  simp only [show slV (valsOf fs time row l) = .pv (.slc (vs (valsOf fs time row l))) from rfl] at hx hy2
  generalize vs (valsOf fs time row l) = Y at hg hx hy2 hvl2 ⊢
  cases b1
  · cases b2
    · simp only [av_e e, av_e x, av_e y, V.av] at hx hR hI
      rw [lReplaces_e6]; simp only [lReplaces_k6, lReplaces_l6, lReplaces_b, lReplaces_rs, Try.f8, Int.lt_irrefl, hg, hx, hR, hI, F.EVT, Am.splice, Am.enterN, Am.freshMem, Am.cA, Am.cB, Am.cK, Am.cL, Am.cS, Am.cT, Am.cE, Am.aresults, Am.aresult, Am.codeKey, Am.frzTop, Am.spliceP, Nat.reduceAdd, Nat.reduceLeDiff, Nat.reduceBEq, Nat.reduceEqDiff, reduceIte, reduceCtorEq, Nat.reduceSub, Int.reduceBEq, Int.reduceSub, Int.reduceAdd, Int.reduceToNat, Int.reduceLT, Int.reduceLE, Int.reduceEq, Int.reduceNeg, Int.reduceBNe, Int.reduceGT, Int.reduceGE, Nat.reduceMul, Nat.reduceMod, Nat.reduceDiv]
      try rfl
    · obtain ⟨q1, ps, q2, q3⟩ := hy2 rfl
      have hpl : (ps.length : Int) ≤ l.length := by omega
      have hpi := ints_len ps
      simp only [av_e e, av_e x, av_e y, V.av, show slF [] = .pv (.slc []) from rfl] at hx hR hI q1 q3
      rw [lReplaces_e6]; simp only [lReplaces_k6, lReplaces_l6, lReplaces_b, lReplaces_rs, Try.f8, Int.lt_irrefl, hg, hx, hR, hI, q1, q3, hvb, hpl, hpi, hvl2, F.EVT, Am.splice, Am.enterN, Am.freshMem, Am.cA, Am.cB, Am.cK, Am.cL, Am.cS, Am.cT, Am.cE, Am.aresults, Am.aresult, Am.codeKey, Am.frzTop, Am.spliceP, Nat.reduceAdd, Nat.reduceLeDiff, Nat.reduceBEq, Nat.reduceEqDiff, reduceIte, reduceCtorEq, Nat.reduceSub, Int.reduceBEq, Int.reduceSub, Int.reduceAdd, Int.reduceToNat, Int.reduceLT, Int.reduceLE, Int.reduceEq, Int.reduceNeg, Int.reduceBNe, Int.reduceGT, Int.reduceGE, Nat.reduceMul, Nat.reduceMod, Nat.reduceDiv]
      try rfl
  · obtain ⟨hpx, r1⟩ := hx2 rfl
    have hS := hS (by omega) (fair_parts G.fair)
    by_cases hk : (stepsOf fs x : Int) ≤ 10000
    · cases b2
      · simp only [av_e e, av_e x, av_e y, V.av] at hx hR hI hS r1
        rw [lReplaces_e6]; simp only [lReplaces_k6, lReplaces_l6, lReplaces_b, lReplaces_rs, Try.f8, Int.lt_irrefl, hg, hx, hR, hI, hS, hk, r1, hvb, F.EVT, Am.splice, Am.enterN, Am.freshMem, Am.cA, Am.cB, Am.cK, Am.cL, Am.cS, Am.cT, Am.cE, Am.aresults, Am.aresult, Am.codeKey, Am.frzTop, Am.spliceP, Nat.reduceAdd, Nat.reduceLeDiff, Nat.reduceBEq, Nat.reduceEqDiff, reduceIte, reduceCtorEq, Nat.reduceSub, Int.reduceBEq, Int.reduceSub, Int.reduceAdd, Int.reduceToNat, Int.reduceLT, Int.reduceLE, Int.reduceEq, Int.reduceNeg, Int.reduceBNe, Int.reduceGT, Int.reduceGE, Nat.reduceMul, Nat.reduceMod, Nat.reduceDiv]
        try rfl
      · obtain ⟨q1, ps, q2, q3⟩ := hy2 rfl
        have hpl : (ps.length : Int) ≤ l.length := by omega
        have hpi := ints_len ps
        simp only [av_e e, av_e x, av_e y, V.av, show slF [] = .pv (.slc []) from rfl] at hx hR hI hS r1 q1 q3
        rw [lReplaces_e6]; simp only [lReplaces_k6, lReplaces_l6, lReplaces_b, lReplaces_rs, Try.f8, Int.lt_irrefl, hg, hx, hR, hI, hS, hk, r1, q1, q3, hvb, hpl, hpi, hvl2, F.EVT, Am.splice, Am.enterN, Am.freshMem, Am.cA, Am.cB, Am.cK, Am.cL, Am.cS, Am.cT, Am.cE, Am.aresults, Am.aresult, Am.codeKey, Am.frzTop, Am.spliceP, Nat.reduceAdd, Nat.reduceLeDiff, Nat.reduceBEq, Nat.reduceEqDiff, reduceIte, reduceCtorEq, Nat.reduceSub, Int.reduceBEq, Int.reduceSub, Int.reduceAdd, Int.reduceToNat, Int.reduceLT, Int.reduceLE, Int.reduceEq, Int.reduceNeg, Int.reduceBNe, Int.reduceGT, Int.reduceGE, Nat.reduceMul, Nat.reduceMod, Nat.reduceDiv]
        try rfl
    · cases b2
      · simp only [av_e e, av_e x, av_e y, V.av] at hx hR hI hS r1
        rw [lReplaces_e6]; simp only [lReplaces_k6, lReplaces_l6, lReplaces_b, lReplaces_rs, Try.f8, Int.lt_irrefl, hg, hx, hR, hI, hS, hk, r1, hvb, F.EVT, Am.splice, Am.enterN, Am.freshMem, Am.cA, Am.cB, Am.cK, Am.cL, Am.cS, Am.cT, Am.cE, Am.aresults, Am.aresult, Am.codeKey, Am.frzTop, Am.spliceP, Nat.reduceAdd, Nat.reduceLeDiff, Nat.reduceBEq, Nat.reduceEqDiff, reduceIte, reduceCtorEq, Nat.reduceSub, Int.reduceBEq, Int.reduceSub, Int.reduceAdd, Int.reduceToNat, Int.reduceLT, Int.reduceLE, Int.reduceEq, Int.reduceNeg, Int.reduceBNe, Int.reduceGT, Int.reduceGE, Nat.reduceMul, Nat.reduceMod, Nat.reduceDiv]
        try rfl
      · obtain ⟨q1, ps, q2, q3⟩ := hy2 rfl
        have hpl : (ps.length : Int) ≤ l.length := by omega
        have hpi := ints_len ps
        simp only [av_e e, av_e x, av_e y, V.av, show slF [] = .pv (.slc []) from rfl] at hx hR hI hS r1 q1 q3
        rw [lReplaces_e6]; simp only [lReplaces_k6, lReplaces_l6, lReplaces_b, lReplaces_rs, Try.f8, Int.lt_irrefl, hg, hx, hR, hI, hS, hk, r1, q1, q3, hvb, hpl, hpi, hvl2, F.EVT, Am.splice, Am.enterN, Am.freshMem, Am.cA, Am.cB, Am.cK, Am.cL, Am.cS, Am.cT, Am.cE, Am.aresults, Am.aresult, Am.codeKey, Am.frzTop, Am.spliceP, Nat.reduceAdd, Nat.reduceLeDiff, Nat.reduceBEq, Nat.reduceEqDiff, reduceIte, reduceCtorEq, Nat.reduceSub, Int.reduceBEq, Int.reduceSub, Int.reduceAdd, Int.reduceToNat, Int.reduceLT, Int.reduceLE, Int.reduceEq, Int.reduceNeg, Int.reduceBNe, Int.reduceGT, Int.reduceGE, Nat.reduceMul, Nat.reduceMod, Nat.reduceDiv]
        try rfl
theorem lp_loop {fs : List Fn} {e : E} {l : List E} {time : Int} {row : List V} (hn : fs.length ≤ LIM) (hr : row.length ≤ LIM) (h12 : l.length ≤ 12) : ∀ (xs : List E) (i : Nat) (st : St), l.drop i = xs → i ≤ l.length → (∀ x ∈ l.take i, goodB fs x row = true) →
    St.forget (lReplaces_h.at 6) st = lpSt fs e l time row (valsOf fs time row (l.take i)) i → leaveR PP lReplaces_rs 0 (thenC (blockC 0 (lReplaces_L 6 st)) (acodeX PP RR [] lReplaces_L lReplaces_k6)) = some (B true, [])
  | [], i, st, h, hle, hq, hst => by
    have he : i = l.length := by have := drop_nil' h; omega
    subst he
    rw [List.take_length] at hq hst
    exact lp_end hn h12 hq st hst
  | x :: xs, i, st, h, hle, hq, hst => by
    obtain ⟨hlt, hi, hd⟩ := drop_cons h
    have hlt' : (i : Int) < l.length := by omega
    have hg := good_ok (fs := fs) (e := x) (row := row) hn hr
    rw [lReplaces_q6, hst]
    cases hb : goodB fs x row
    · rw [hb] at hg
      simp only [av_e x] at hg
      rw [lReplaces_e6]; simp only [lReplaces_l6, lReplaces_b, lReplaces_rs, Try.f8, index_E hi, hlt', hg, F.EVT, Am.splice, Am.enterN, Am.freshMem, Am.cA, Am.cB, Am.cK, Am.cL, Am.cS, Am.cT, Am.cE, Am.aresults, Am.aresult, Am.codeKey, Am.frzTop, Am.spliceP, Nat.reduceAdd, Nat.reduceLeDiff, Nat.reduceBEq, Nat.reduceEqDiff, reduceIte, reduceCtorEq, Nat.reduceSub, Int.reduceBEq, Int.reduceSub, Int.reduceAdd, Int.reduceToNat, Int.reduceLT, Int.reduceLE, Int.reduceEq, Int.reduceNeg, Int.reduceBNe, Int.reduceGT, Int.reduceGE, Nat.reduceMul, Nat.reduceMod, Nat.reduceDiv]
      try rfl
    · rw [hb] at hg
      obtain ⟨t, G⟩ := good_of hb
      have hx := xEval_ok (good_eval (time := time) G).1
      have hq' : ∀ y ∈ l.take (i + 1), goodB fs y row = true := by
        intro y hy
        rw [List.take_add_one, hi] at hy
        rcases List.mem_append.1 hy with hy | hy
        · exact hq y hy
        · simp only [Option.toList, List.mem_singleton] at hy; subst hy; exact hb
      have hvs : valsOf fs time row (l.take (i + 1)) = valsOf fs time row (l.take i) ++ [evD fs time fs.length row [] x] := by
        simp [valsOf, List.take_add_one, hi]
      have hvlen : (valsOf fs time row (l.take i)).length ≤ 12 := by simp only [valsOf, List.length_map, List.length_take]; omega
      have ih := fun st => lp_loop (e := e) (time := time) hn hr h12 xs (i + 1) st hd hlt hq'
      rw [hvs] at ih
      generalize evD fs time fs.length row [] x = w at hx ih
      generalize valsOf fs time row (l.take i) = vals at hvlen ih ⊢
      have hbb : ((vs vals).length + 1) * 32 ≤ 140737488355328 := by rw [vs_len]; omega
      have hap := vs_snoc vals w
      simp only [av_e x, V.av] at hg hx
      rw [lReplaces_e6]; simp only [lReplaces_l6, lReplaces_b, lReplaces_rs, Try.f8, index_E hi, hlt', hg, hx, hbb, hap, wrapS hlt (show l.length ≤ LIM by simp only [LIM]; omega), F.EVT, Am.splice, Am.enterN, Am.freshMem, Am.cA, Am.cB, Am.cK, Am.cL, Am.cS, Am.cT, Am.cE, Am.aresults, Am.aresult, Am.codeKey, Am.frzTop, Am.spliceP, Nat.reduceAdd, Nat.reduceLeDiff, Nat.reduceBEq, Nat.reduceEqDiff, reduceIte, reduceCtorEq, Nat.reduceSub, Int.reduceBEq, Int.reduceSub, Int.reduceAdd, Int.reduceToNat, Int.reduceLT, Int.reduceLE, Int.reduceEq, Int.reduceNeg, Int.reduceBNe, Int.reduceGT, Int.reduceGE, Nat.reduceMul, Nat.reduceMod, Nat.reduceDiv]
      exact ih _ (by delta lpSt; generalize vs (vals ++ [w]) = Y; cases Y <;> kernel_rfl)
theorem replaces_law {fs : List Fn} {e : E} {l : List E} {time : Int} {row : List V} (hn : fs.length ≤ LIM) (hr : row.length ≤ LIM) (hll : l.length ≤ LIM) : RR 8 [slF fs, e.av, slE l, I time, slV row] [] = some (B true, []) := by
  apply lReplaces_r
  simp only [av_e e]
  have hel : (l.map E.pv).length = l.length := List.length_map _
  by_cases h12 : (l.length : Int) > 12
  · simp only [lReplaces_b, lReplaces_h, lReplaces_rs, Try.f8, small_ok, h12, hel, F.EVT, Am.splice, Am.enterN, Am.freshMem, Am.cA, Am.cB, Am.cK, Am.cL, Am.cS, Am.cT, Am.cE, Am.aresults, Am.aresult, Am.codeKey, Am.frzTop, Am.spliceP, Nat.reduceAdd, Nat.reduceLeDiff, Nat.reduceBEq, Nat.reduceEqDiff, reduceIte, reduceCtorEq, Nat.reduceSub, Int.reduceBEq, Int.reduceSub, Int.reduceAdd, Int.reduceToNat, Int.reduceLT, Int.reduceLE, Int.reduceEq, Int.reduceNeg, Int.reduceBNe, Int.reduceGT, Int.reduceGE, Nat.reduceMul, Nat.reduceMod, Nat.reduceDiv]
    try rfl
  · have h12' : l.length ≤ 12 := by omega
    have hloop := lp_loop (e := e) (time := time) hn hr h12' l 0
    simp only [lReplaces_b, lReplaces_h, lReplaces_rs, Try.f8, small_ok, h12, hel, F.EVT, Am.splice, Am.enterN, Am.freshMem, Am.cA, Am.cB, Am.cK, Am.cL, Am.cS, Am.cT, Am.cE, Am.aresults, Am.aresult, Am.codeKey, Am.frzTop, Am.spliceP, Nat.reduceAdd, Nat.reduceLeDiff, Nat.reduceBEq, Nat.reduceEqDiff, reduceIte, reduceCtorEq, Nat.reduceSub, Int.reduceBEq, Int.reduceSub, Int.reduceAdd, Int.reduceToNat, Int.reduceLT, Int.reduceLE, Int.reduceEq, Int.reduceNeg, Int.reduceBNe, Int.reduceGT, Int.reduceGE, Nat.reduceMul, Nat.reduceMod, Nat.reduceDiv]
    exact hloop _ rfl (Nat.zero_le _) (fun x hx => by simp at hx) (by kernel_rfl)
end Go.Proofs.Ytjbmdfdgeioecaa.X
