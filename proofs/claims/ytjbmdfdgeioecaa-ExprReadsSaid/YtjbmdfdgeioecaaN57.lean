/- ExprReads: a changed row; what the law gives. -/
import Derived.Test.YtjbmdfdgeioecaaSmall
import Derived.Test.YtjbmdfdgeioecaaN48
import Derived.Test.YtjbmdfdgeioecaaN53
import Derived.Test.YtjbmdfdgeioecaaN55
namespace Go.Proofs.Ytjbmdfdgeioecaa.X
open Go.Proofs.Ytjbmdfdgeioecaa.Am Go.Proofs.Ytjbmdfdgeioecaa.F
set_option linter.unusedVariables false
set_option linter.unusedSimpArgs false
set_option maxRecDepth 100000
set_option maxHeartbeats 1000000
abbrev vcs (v : V) : List PV := [.int .i64 v.kind, .int .i64 v.n, .str v.s]
theorem cellsOf_cons (v : V) (l : List V) : cellsOf ((v :: l).map V.pv) = .int .i64 v.kind :: .int .i64 v.n :: .str v.s :: cellsOf (l.map V.pv) := rfl
theorem chunks_vs : ∀ l : List V, chunks true 3 l.length (cellsOf (l.map V.pv)) = l.map V.pv
  | [] => rfl
  | v :: l => by
    rw [List.length_cons, chunks_s, cellsOf_cons]
    simp only [List.take_succ_cons, List.take_zero, List.drop_succ_cons, List.drop_zero, chunks_vs l, if_true]
    rfl
theorem cellsOf_len : ∀ l : List V, (cellsOf (l.map V.pv)).length = l.length * 3
  | [] => rfl
  | v :: l => by rw [cellsOf_cons]; simp only [List.length_cons, cellsOf_len l]; omega
theorem splice_vs (v : V) : ∀ (l : List V) (k : Nat), k < l.length → spliceP (cellsOf (l.map V.pv)) (k * 3) (vcs v) = cellsOf ((l.set k v).map V.pv)
  | [], k, h => by simp at h
  | x :: l, 0, h => by
    rw [List.set_cons_zero, cellsOf_cons, cellsOf_cons]
    rfl
  | x :: l, k + 1, h => by
    have ih := splice_vs v l k (by simpa using h)
    rw [List.set_cons_succ, cellsOf_cons, cellsOf_cons, ← ih, show (k + 1) * 3 = k * 3 + 3 by omega]
    unfold spliceP
    rw [show k * 3 + 3 + (vcs v).length = (k * 3 + (vcs v).length) + 3 by omega]
    rfl
theorem sized_vs (l : List V) : sized 3 (l.map V.pv) = true := by simp [sized, V.pv, PV.cells]
theorem app_mark {ts : List AV} {vs' : List (Nat × List AV)} {tk : List (Nat × Nat × Nat)} {ms : List Mem} {sz bytes s : Nat} {ys : List PV} (hv : vs'.lookup s = some [.mrw 0 sz []]) (hs : sized sz ys = true) (hne : ys.isEmpty = false) (hb : ys.length * bytes ≤ 140737488355328) :
    appendC sz bytes ⟨ts, ⟨vs', tk⟩ :: ms⟩ (some s) (.full []) (.pv (.slc ys)) = some (.row none s 2 ys.length, ⟨setAt s [.mrw 2 sz (cellsOf ys)] vs', tk⟩ :: ms) := by
  simp only [appendC, AV.slc?, hs, hne, varAt_top, hv, d_cons, rwAt_C, setVar_top]
  simp [hb, rwC]
theorem st34r0 (st : St) (loc : Option Nat) (s ver off : Nat) (x : AV) : astore PP st 34 (.rptr loc s ver off) x = if x.isJunk = false ∧ x.cells.length = 3 ∧ x.cells.all AV.single = true then (rwAt st.mems (loc.getD st.d) s).bind fun q => (leaves? x.cells).bind fun ps => if q.1 = ver ∧ 0 < 3 ∧ off + 3 ≤ q.2.2.length then some (.junk, setVar st.mems (loc.getD st.d) s [.mrw q.1 q.2.1 (spliceP q.2.2 off ps)]) else none else none := by kernel_rfl
theorem st34r {ts : List AV} {vs' : List (Nat × List AV)} {tk : List (Nat × Nat × Nat)} {ms : List Mem} {s ver off : Nat} {cs : List PV} {v : V} (hv : vs'.lookup s = some [.mrw ver 3 cs]) (hl : off + 3 ≤ cs.length) :
    astore PP ⟨ts, ⟨vs', tk⟩ :: ms⟩ 34 (.rptr none s ver off) (.agg [.pv (.int .i64 v.kind), .pv (.int .i64 v.n), .pv (.str v.s)]) = some (.junk, ⟨setAt s [.mrw ver 3 (spliceP cs off (vcs v))] vs', tk⟩ :: ms) := by
  rw [st34r0]
  simp only [Option.getD_none, d_cons, rwAt_C, varAt_top, hv, rwC, Option.bind_some, setVar_top]
  simp [leaves?, AV.leaf?, AV.single, AV.isJunk, AV.cells, hl]
theorem FitsL.set : ∀ {l : List V} {ts : List Int}, FitsL l ts → ∀ {k : Nat} {v w : V} , l[k]? = some w → v.kind = w.kind → OkV v.kind v → FitsL (l.set k v) ts
  | [], [], h, k, v, w, hk, _, _ => by simp at hk
  | x :: l, t :: ts, h, 0, v, w, hk, hvw, hv => by
    simp only [List.getElem?_cons_zero, Option.some.injEq] at hk
    subst hk
    have h1 := h.1.kind
    refine ⟨?_, h.2⟩
    rw [← h1, ← hvw]
    exact hv
  | x :: l, t :: ts, h, k + 1, v, w, hk, hvw, hv => by
    simp only [List.getElem?_cons_succ] at hk
    exact ⟨h.1, FitsL.set h.2 hk hvw hv⟩
  | [], _ :: _, h, _, _, _, _, _, _ => h.elim
  | _ :: _, [], h, _, _, _, _, _, _ => h.elim
abbrev lrZ : List (Nat × List Prep) := [(17, [.mark 86 3]), (19, [.freeze 86 true])]
abbrev vmem (v : V) : List AV := [I v.kind, I v.n, .pv (.str v.s)]
abbrev lrSt (fs : List Fn) (e : E) (time : Int) (row : List V) (n : Int) (v a : V) (L : List Int) (i : Int) : St := lReads_t11 (slF fs) (I time) (slV row) (I n) (.ptr none 8 0) (.ptr none 13 0) (B true) (.ptr none 16 0) (.pv (.slc (ints L))) (I i) [⟨[(8, emem e), (13, vmem v), (16, vmem a)], [(86, (0, 0))]⟩]
theorem lr_end {fs : List Fn} {e : E} {time n : Int} {row : List V} {v : V} {t : Int} {L : List Int} (G : Good fs e row t) (h0 : 0 ≤ n) (h1 : n < row.length) (hv : fitV v = true) (hr : readsN n e = false) (st : St)
    (hst : St.forget (lReads_h.at 11) st = lrSt fs e time row n v (evD fs time fs.length row [] e) L L.length) :
    leaveR PP lReads_rs 0 (thenC (blockC 0 (lReads_L 11 st)) (acodeX PP RR lrZ lReads_L lReads_k11)) = some (B true, []) := by
  have hll := ints_len L
  have hlt : n.toNat < row.length := by omega
  have hg := List.getElem?_eq_getElem hlt
  generalize row[n.toNat] = w at hg
  have hi := index_Vat h0 hg
  rw [lReads_q11, hst]
  by_cases hk : v.kind = w.kind
  · have hkb : (v.kind != w.kind) = false := by simpa using hk
    have hfit : OkV v.kind v := (fits_kinds (row := [v]) (by simp [hv])).1
    have hF := FitsL.set G.fits hg hk hfit
    have hev := (ev_ok (time := time) G.fns fs.length (Nat.le_refl _) hF (params := []) (ps := []) trivial e t G.parts (by rw [List.take_length]; exact G.ty)).1
    rw [evD_col (d := fs.length) G.ty h0 hr] at hev
    have hx := xEval_ok hev
    generalize evD fs time fs.length row [] e = a at hx ⊢
    have hvb := vbeq_self a
    unfold V.beq at hvb
    have hne : (row.map V.pv).isEmpty = false := by cases row with | nil => simp at hlt | cons => rfl
    have hvl : (row.map V.pv).length = row.length := List.length_map _
    have hrow := G.rows
    have hb : row.length * 32 ≤ 140737488355328 := by omega
    have hsz := sized_vs row
    have hcl : n.toNat * 3 + 3 ≤ (cellsOf (row.map V.pv)).length := by rw [cellsOf_len]; omega
    have hsp := splice_vs v row n.toNat hlt
    simp only [spliceP, vcs, List.length_cons, List.length_nil, List.append_assoc, List.cons_append, List.nil_append, Nat.zero_add, Nat.reduceAdd] at hsp
    have hcl2 : (cellsOf ((row.set n.toNat v).map V.pv)).length = row.length * 3 := by rw [cellsOf_len, List.length_set]
    have hch : chunks true 3 row.length (cellsOf ((row.set n.toNat v).map V.pv)) = (row.set n.toNat v).map V.pv := by
      have := chunks_vs (row.set n.toNat v)
      rwa [List.length_set] at this
    have hfz : ∀ (ts : List AV) (m : Mem) (ms : List Mem), frzGo ts m ms 86 true 2 3 ((cellsOf ((row.set n.toNat v).map V.pv)).length / 3) (cellsOf ((row.set n.toNat v).map V.pv)) = some (frzTop ts m ms 86 2 row.length (.slc ((row.set n.toNat v).map V.pv))) := fun ts m ms => frzGo_n hcl2 rfl hch
    simp only [av_e e, V.av] at hx
    rw [lReads_e11]; simp only [lReads_k11, lReads_l11, lReads_b, lReads_rs, Try.f6, Int.lt_irrefl, hll, hi, hkb, app_mark, hne, hsz, hb, hvl, h0, h1, Option.getD_none, hcl, hsp, hfz, hx, hvb, show (0 : Nat) < 3 from (by decide), F.EVT, Am.splice, Am.enterN, Am.freshMem, Am.cA, Am.cB, Am.cK, Am.cL, Am.cS, Am.cT, Am.cE, Am.aresults, Am.aresult, Am.codeKey, Am.frzTop, Am.spliceP, Nat.reduceAdd, Nat.reduceLeDiff, Nat.reduceBEq, Nat.reduceEqDiff, reduceIte, reduceCtorEq, Nat.reduceSub, Int.reduceBEq, Int.reduceSub, Int.reduceAdd, Int.reduceToNat, Int.reduceLT, Int.reduceLE, Int.reduceEq, Int.reduceNeg, Int.reduceBNe, Int.reduceGT, Int.reduceGE, Nat.reduceMul, Nat.reduceMod, Nat.reduceDiv]
    try rfl
  · have hkb : (v.kind != w.kind) = true := by simpa using hk
    rw [lReads_e11]; simp only [lReads_k11, lReads_l11, lReads_b, lReads_rs, Try.f6, Int.lt_irrefl, hll, hi, hkb, F.EVT, Am.splice, Am.enterN, Am.freshMem, Am.cA, Am.cB, Am.cK, Am.cL, Am.cS, Am.cT, Am.cE, Am.aresults, Am.aresult, Am.codeKey, Am.frzTop, Am.spliceP, Nat.reduceAdd, Nat.reduceLeDiff, Nat.reduceBEq, Nat.reduceEqDiff, reduceIte, reduceCtorEq, Nat.reduceSub, Int.reduceBEq, Int.reduceSub, Int.reduceAdd, Int.reduceToNat, Int.reduceLT, Int.reduceLE, Int.reduceEq, Int.reduceNeg, Int.reduceBNe, Int.reduceGT, Int.reduceGE, Nat.reduceMul, Nat.reduceMod, Nat.reduceDiv]
    try rfl
theorem lr_loop {fs : List Fn} {e : E} {time n : Int} {row : List V} {v : V} {t : Int} {L : List Int} (G : Good fs e row t) (h0 : 0 ≤ n) (h1 : n < row.length) (hv : fitV v = true) (hL : ∀ m, m ∈ L ↔ readsN m e = true) (hn : L.length ≤ 1000000) : ∀ (xs : List Int) (i : Nat) (st : St), L.drop i = xs → i ≤ L.length → (∀ x ∈ L.take i, x ≠ n) →
    St.forget (lReads_h.at 11) st = lrSt fs e time row n v (evD fs time fs.length row [] e) L i → leaveR PP lReads_rs 0 (thenC (blockC 0 (lReads_L 11 st)) (acodeX PP RR lrZ lReads_L lReads_k11)) = some (B true, [])
  | [], i, st, h, hle, hq, hst => by
    have he : i = L.length := by have := drop_nil' h; omega
    subst he
    rw [List.take_length] at hq
    refine lr_end G h0 h1 hv ?_ st hst
    cases hr : readsN n e
    · rfl
    · exact absurd rfl (hq n ((hL n).mpr hr))
  | x :: xs, i, st, h, hle, hq, hst => by
    obtain ⟨hlt, hi, hd⟩ := drop_cons h
    have hlt' : (i : Int) < L.length := by omega
    have hll := ints_len L
    rw [lReads_q11, hst]
    by_cases hx : x = n
    · have hxb : (x == n) = true := by simpa using hx
      rw [lReads_e11]; simp only [lReads_l11, lReads_b, lReads_rs, Try.f6, index_I hi, hlt', hll, hxb, F.EVT, Am.splice, Am.enterN, Am.freshMem, Am.cA, Am.cB, Am.cK, Am.cL, Am.cS, Am.cT, Am.cE, Am.aresults, Am.aresult, Am.codeKey, Am.frzTop, Am.spliceP, Nat.reduceAdd, Nat.reduceLeDiff, Nat.reduceBEq, Nat.reduceEqDiff, reduceIte, reduceCtorEq, Nat.reduceSub, Int.reduceBEq, Int.reduceSub, Int.reduceAdd, Int.reduceToNat, Int.reduceLT, Int.reduceLE, Int.reduceEq, Int.reduceNeg, Int.reduceBNe, Int.reduceGT, Int.reduceGE, Nat.reduceMul, Nat.reduceMod, Nat.reduceDiv]
      try rfl
    · have hxb : (x == n) = false := by simpa using hx
      rw [lReads_e11]; simp only [lReads_l11, lReads_b, lReads_rs, Try.f6, index_I hi, hlt', hll, hxb, wrapS hlt (show L.length ≤ LIM by simp only [LIM]; omega), F.EVT, Am.splice, Am.enterN, Am.freshMem, Am.cA, Am.cB, Am.cK, Am.cL, Am.cS, Am.cT, Am.cE, Am.aresults, Am.aresult, Am.codeKey, Am.frzTop, Am.spliceP, Nat.reduceAdd, Nat.reduceLeDiff, Nat.reduceBEq, Nat.reduceEqDiff, reduceIte, reduceCtorEq, Nat.reduceSub, Int.reduceBEq, Int.reduceSub, Int.reduceAdd, Int.reduceToNat, Int.reduceLT, Int.reduceLE, Int.reduceEq, Int.reduceNeg, Int.reduceBNe, Int.reduceGT, Int.reduceGE, Nat.reduceMul, Nat.reduceMod, Nat.reduceDiv]
      refine lr_loop (time := time) G h0 h1 hv hL hn xs (i + 1) _ hd hlt ?_ (by kernel_rfl)
      intro y hy
      rw [List.take_add_one, hi] at hy
      rcases List.mem_append.1 hy with hy | hy
      · exact hq y hy
      · simp only [Option.toList, List.mem_singleton] at hy; subst hy; exact hx
theorem reads_law {fs : List Fn} {e : E} {time other n : Int} {row : List V} {v : V} (hn : fs.length ≤ LIM) (hr : row.length ≤ LIM) (hw : wfC e) : RR 6 [slF fs, e.av, I time, slV row, I other, I n, v.av] [] = some (B true, []) := by
  have hg := good_ok (e := e) hn hr
  simp only [av_e e, V.av] at hg ⊢
  apply lReads_r
  cases hb : goodB fs e row
  · rw [hb] at hg
    simp only [lReads_b, lReads_h, lReads_rs, Try.f6, hg, small_ok, F.EVT, Am.splice, Am.enterN, Am.freshMem, Am.cA, Am.cB, Am.cK, Am.cL, Am.cS, Am.cT, Am.cE, Am.aresults, Am.aresult, Am.codeKey, Am.frzTop, Am.spliceP, Nat.reduceAdd, Nat.reduceLeDiff, Nat.reduceBEq, Nat.reduceEqDiff, reduceIte, reduceCtorEq, Nat.reduceSub, Int.reduceBEq, Int.reduceSub, Int.reduceAdd, Int.reduceToNat, Int.reduceLT, Int.reduceLE, Int.reduceEq, Int.reduceNeg, Int.reduceBNe, Int.reduceGT, Int.reduceGE, Nat.reduceMul, Nat.reduceMod, Nat.reduceDiv]
    try rfl
  rw [hb] at hg
  obtain ⟨t, G⟩ := good_of hb
  have hx := xEval_ok (good_eval (time := time) G).1
  have hxo := xEval_ok (good_eval (time := other) G).1
  have hT := xTimed_ok G
  have hf := fits_ok [v] (by simp [LIM])
  have hR := xReads_ok G.parts hw
  have hloop := fun h0 h1 hv => lr_loop (time := time) (n := n) (v := v) (L := sortI (colsE [] e)) G h0 h1 hv (fun m => by rw [sortI_mem, colsE_mem]; simp) (by
    have := colsE_len [] e
    have h2 := (List.mergeSort_perm (colsE [] e) leI).length_eq
    have h3 := G.parts
    simp only [List.length_nil] at this
    unfold sortI
    omega) (sortI (colsE [] e)) 0
  generalize sortI (colsE [] e) = L at hR hloop
  simp only [av_e e, V.av, List.map_cons, List.map_nil, V.pv] at hx hxo hT hf hR
  cases htm : timedOf fs e
  · rw [evD_time (time := other) (time' := time) G.fns G.ty htm] at hxo
    rw [htm] at hT
    generalize hae : evD fs time fs.length row [] e = a at hx hxo hloop
    have hvb := vbeq_self a
    unfold V.beq at hvb
    by_cases h0 : n < 0
    · simp only [lReads_b, lReads_h, lReads_rs, Try.f6, hg, small_ok, hx, hxo, hT, hvb, h0, F.EVT, Am.splice, Am.enterN, Am.freshMem, Am.cA, Am.cB, Am.cK, Am.cL, Am.cS, Am.cT, Am.cE, Am.aresults, Am.aresult, Am.codeKey, Am.frzTop, Am.spliceP, Nat.reduceAdd, Nat.reduceLeDiff, Nat.reduceBEq, Nat.reduceEqDiff, reduceIte, reduceCtorEq, Nat.reduceSub, Int.reduceBEq, Int.reduceSub, Int.reduceAdd, Int.reduceToNat, Int.reduceLT, Int.reduceLE, Int.reduceEq, Int.reduceNeg, Int.reduceBNe, Int.reduceGT, Int.reduceGE, Nat.reduceMul, Nat.reduceMod, Nat.reduceDiv]
      try rfl
    by_cases h1 : n ≥ (row.length : Int)
    · simp only [lReads_b, lReads_h, lReads_rs, Try.f6, hg, small_ok, hx, hxo, hT, hvb, h0, h1, F.EVT, Am.splice, Am.enterN, Am.freshMem, Am.cA, Am.cB, Am.cK, Am.cL, Am.cS, Am.cT, Am.cE, Am.aresults, Am.aresult, Am.codeKey, Am.frzTop, Am.spliceP, Nat.reduceAdd, Nat.reduceLeDiff, Nat.reduceBEq, Nat.reduceEqDiff, reduceIte, reduceCtorEq, Nat.reduceSub, Int.reduceBEq, Int.reduceSub, Int.reduceAdd, Int.reduceToNat, Int.reduceLT, Int.reduceLE, Int.reduceEq, Int.reduceNeg, Int.reduceBNe, Int.reduceGT, Int.reduceGE, Nat.reduceMul, Nat.reduceMod, Nat.reduceDiv]
      try rfl
    cases hfb : fitsB [v]
    · rw [hfb] at hf
      simp only [lReads_b, lReads_h, lReads_rs, Try.f6, hg, small_ok, hx, hxo, hT, hvb, h0, h1, hf, F.EVT, Am.splice, Am.enterN, Am.freshMem, Am.cA, Am.cB, Am.cK, Am.cL, Am.cS, Am.cT, Am.cE, Am.aresults, Am.aresult, Am.codeKey, Am.frzTop, Am.spliceP, Nat.reduceAdd, Nat.reduceLeDiff, Nat.reduceBEq, Nat.reduceEqDiff, reduceIte, reduceCtorEq, Nat.reduceSub, Int.reduceBEq, Int.reduceSub, Int.reduceAdd, Int.reduceToNat, Int.reduceLT, Int.reduceLE, Int.reduceEq, Int.reduceNeg, Int.reduceBNe, Int.reduceGT, Int.reduceGE, Nat.reduceMul, Nat.reduceMod, Nat.reduceDiv]
      try rfl
    rw [hfb] at hf
    simp only [lReads_b, lReads_h, lReads_rs, Try.f6, hg, small_ok, hx, hxo, hT, hvb, h0, h1, hf, hR, F.EVT, Am.splice, Am.enterN, Am.freshMem, Am.cA, Am.cB, Am.cK, Am.cL, Am.cS, Am.cT, Am.cE, Am.aresults, Am.aresult, Am.codeKey, Am.frzTop, Am.spliceP, Nat.reduceAdd, Nat.reduceLeDiff, Nat.reduceBEq, Nat.reduceEqDiff, reduceIte, reduceCtorEq, Nat.reduceSub, Int.reduceBEq, Int.reduceSub, Int.reduceAdd, Int.reduceToNat, Int.reduceLT, Int.reduceLE, Int.reduceEq, Int.reduceNeg, Int.reduceBNe, Int.reduceGT, Int.reduceGE, Nat.reduceMul, Nat.reduceMod, Nat.reduceDiv]
    exact hloop (by omega) (by omega) (by unfold fitsB at hfb; simp only [List.all_cons, List.all_nil, Bool.and_true, Bool.and_eq_true] at hfb; exact hfb.1) _ rfl (Nat.zero_le _) (fun x hx => by simp at hx) (by kernel_rfl)
  · rw [htm] at hT
    generalize hae : evD fs time fs.length row [] e = a at hx hloop
    by_cases h0 : n < 0
    · simp only [lReads_b, lReads_h, lReads_rs, Try.f6, hg, small_ok, hx, hT, h0, F.EVT, Am.splice, Am.enterN, Am.freshMem, Am.cA, Am.cB, Am.cK, Am.cL, Am.cS, Am.cT, Am.cE, Am.aresults, Am.aresult, Am.codeKey, Am.frzTop, Am.spliceP, Nat.reduceAdd, Nat.reduceLeDiff, Nat.reduceBEq, Nat.reduceEqDiff, reduceIte, reduceCtorEq, Nat.reduceSub, Int.reduceBEq, Int.reduceSub, Int.reduceAdd, Int.reduceToNat, Int.reduceLT, Int.reduceLE, Int.reduceEq, Int.reduceNeg, Int.reduceBNe, Int.reduceGT, Int.reduceGE, Nat.reduceMul, Nat.reduceMod, Nat.reduceDiv]
      try rfl
    by_cases h1 : n ≥ (row.length : Int)
    · simp only [lReads_b, lReads_h, lReads_rs, Try.f6, hg, small_ok, hx, hT, h0, h1, F.EVT, Am.splice, Am.enterN, Am.freshMem, Am.cA, Am.cB, Am.cK, Am.cL, Am.cS, Am.cT, Am.cE, Am.aresults, Am.aresult, Am.codeKey, Am.frzTop, Am.spliceP, Nat.reduceAdd, Nat.reduceLeDiff, Nat.reduceBEq, Nat.reduceEqDiff, reduceIte, reduceCtorEq, Nat.reduceSub, Int.reduceBEq, Int.reduceSub, Int.reduceAdd, Int.reduceToNat, Int.reduceLT, Int.reduceLE, Int.reduceEq, Int.reduceNeg, Int.reduceBNe, Int.reduceGT, Int.reduceGE, Nat.reduceMul, Nat.reduceMod, Nat.reduceDiv]
      try rfl
    cases hfb : fitsB [v]
    · rw [hfb] at hf
      simp only [lReads_b, lReads_h, lReads_rs, Try.f6, hg, small_ok, hx, hT, h0, h1, hf, F.EVT, Am.splice, Am.enterN, Am.freshMem, Am.cA, Am.cB, Am.cK, Am.cL, Am.cS, Am.cT, Am.cE, Am.aresults, Am.aresult, Am.codeKey, Am.frzTop, Am.spliceP, Nat.reduceAdd, Nat.reduceLeDiff, Nat.reduceBEq, Nat.reduceEqDiff, reduceIte, reduceCtorEq, Nat.reduceSub, Int.reduceBEq, Int.reduceSub, Int.reduceAdd, Int.reduceToNat, Int.reduceLT, Int.reduceLE, Int.reduceEq, Int.reduceNeg, Int.reduceBNe, Int.reduceGT, Int.reduceGE, Nat.reduceMul, Nat.reduceMod, Nat.reduceDiv]
      try rfl
    rw [hfb] at hf
    simp only [lReads_b, lReads_h, lReads_rs, Try.f6, hg, small_ok, hx, hT, h0, h1, hf, hR, F.EVT, Am.splice, Am.enterN, Am.freshMem, Am.cA, Am.cB, Am.cK, Am.cL, Am.cS, Am.cT, Am.cE, Am.aresults, Am.aresult, Am.codeKey, Am.frzTop, Am.spliceP, Nat.reduceAdd, Nat.reduceLeDiff, Nat.reduceBEq, Nat.reduceEqDiff, reduceIte, reduceCtorEq, Nat.reduceSub, Int.reduceBEq, Int.reduceSub, Int.reduceAdd, Int.reduceToNat, Int.reduceLT, Int.reduceLE, Int.reduceEq, Int.reduceNeg, Int.reduceBNe, Int.reduceGT, Int.reduceGE, Nat.reduceMul, Nat.reduceMod, Nat.reduceDiv]
    exact hloop (by omega) (by omega) (by unfold fitsB at hfb; simp only [List.all_cons, List.all_nil, Bool.and_true, Bool.and_eq_true] at hfb; exact hfb.1) _ rfl (Nat.zero_le _) (fun x hx => by simp at hx) (by kernel_rfl)
end Go.Proofs.Ytjbmdfdgeioecaa.X
