/- Ascending lists of numbers; the document's with. -/
import Derived.Test.YtjbmdfdgeioecaaN6
namespace Go.Proofs.Ytjbmdfdgeioecaa.X
open Go.Proofs.Ytjbmdfdgeioecaa.Am Go.Proofs.Ytjbmdfdgeioecaa.F
set_option linter.unusedVariables false
set_option linter.unusedSimpArgs false
set_option maxRecDepth 100000
set_option maxHeartbeats 1000000
def withI : List Int → Int → List Int
  | [], n => [n]
  | x :: l, n => if x < n then x :: withI l n else if x = n then x :: l else n :: x :: l
theorem withI_mem (l : List Int) (n m : Int) : m ∈ withI l n ↔ m = n ∨ m ∈ l := by
  induction l with
  | nil => simp [withI]
  | cons x l ih =>
    simp only [withI]
    split
    · simp only [List.mem_cons, ih]; constructor <;> (rintro (h | h | h) <;> simp [h])
    · split
      · rename_i h; subst h; simp
      · simp
abbrev asc (l : List Int) : Prop := l.Pairwise (· < ·)
theorem withI_asc {l : List Int} {n : Int} (h : asc l) : asc (withI l n) := by
  induction l with
  | nil => simp [withI, asc]
  | cons x l ih =>
    simp only [asc, List.pairwise_cons] at h
    simp only [withI]
    split
    · rename_i hx
      refine List.pairwise_cons.mpr ⟨fun m hm => ?_, ih h.2⟩
      rcases (withI_mem _ _ _).mp hm with rfl | hm
      · exact hx
      · exact h.1 m hm
    · split
      · exact List.pairwise_cons.mpr h
      · rename_i h1 h2
        refine List.pairwise_cons.mpr ⟨fun m hm => ?_, List.pairwise_cons.mpr h⟩
        rcases List.mem_cons.mp hm with rfl | hm
        · omega
        · have := h.1 m hm; omega
/-- Two ascending lists with the same members are the same. -/
theorem asc_ext : ∀ {l m : List Int}, asc l → asc m → (∀ n, n ∈ l ↔ n ∈ m) → l = m
  | [], [], _, _, _ => rfl
  | [], y :: m, _, _, h => by have := (h y).mpr (by simp); simp at this
  | x :: l, [], _, _, h => by have := (h x).mp (by simp); simp at this
  | x :: l, y :: m, hl, hm, h => by
    simp only [asc, List.pairwise_cons] at hl hm
    have hxy : x = y := by
      have h1 := (h x).mp (by simp)
      have h2 := (h y).mpr (by simp)
      rcases List.mem_cons.mp h1 with h1 | h1
      · exact h1
      · rcases List.mem_cons.mp h2 with h2 | h2
        · exact h2.symm
        · have := hm.1 x h1; have := hl.1 y h2; omega
    subst hxy
    refine congrArg (x :: ·) (asc_ext hl.2 hm.2 fun n => ⟨fun hn => ?_, fun hn => ?_⟩)
    · have hlt := hl.1 n hn
      rcases List.mem_cons.mp ((h n).mp (List.mem_cons_of_mem _ hn)) with he | hm'
      · omega
      · exact hm'
    · have hlt := hm.1 n hn
      rcases List.mem_cons.mp ((h n).mpr (List.mem_cons_of_mem _ hn)) with he | hm'
      · omega
      · exact hm'
/-! ### the code of with -/
theorem slice_toI {l : List Int} {i : Nat} (h : i ≤ l.length) : sliceC 1 (.pv (.slc (ints l))) none (some (I i)) = some (.pv (.slc (ints (l.take i)))) := by
  have hs : sized 1 (ints l) = true := by simp [sized, ints, PV.cells]
  have hl : (ints l).length = l.length := List.length_map _
  simp only [sliceC, AV.slc?, hs, if_true, abound, hl]
  rw [if_pos ⟨by omega, by omega⟩]
  simp [ints]
theorem slice_fromI {l : List Int} {i : Nat} (h : i ≤ l.length) : sliceC 1 (.pv (.slc (ints l))) (some (I i)) none = some (.pv (.slc (ints (l.drop i)))) := by
  have hs : sized 1 (ints l) = true := by simp [sized, ints, PV.cells]
  have hl : (ints l).length = l.length := List.length_map _
  simp only [sliceC, AV.slc?, hs, if_true, abound, hl, Option.bind_some]
  rw [if_pos ⟨by omega, by omega⟩, ← hl, List.take_length]
  simp [ints]
theorem sized_ints (l : List Int) : sized 1 (ints l) = true := by simp [sized, ints, PV.cells]
/-- An append of a row to what may be read alone. -/
theorem app_new {sz bytes : Nat} {ts : List AV} {vs : List (Nat × List AV)} {tk : List (Nat × Nat × Nat)} {ms : List Mem} {s : Nat} {ys : List PV}
    (hs : sized sz ys = true) (hv : vs.lookup s = none) (hr : tk.lookup s = some (0, 0)) (hne : ys.isEmpty = false) (hb : ys.length * bytes ≤ 140737488355328) :
    appendC sz bytes ⟨ts, ⟨vs, tk⟩ :: ms⟩ (some s) (.full []) (.pv (.slc ys)) = some (.own none s ys, ⟨vs, setAt s (ys.length, sz) tk⟩ :: ms) := by
  have h0 : sized sz [] = true := rfl
  simp only [appendC, AV.slc?, hs, hne, varAt_top, hv, tokAt_top, d_cons, setTok_top, hr, Option.filter, h0]
  simp [hb]
theorem app_no {sz bytes : Nat} {ts : List AV} {m : Mem} {ms : List Mem} {s : Nat} : appendC sz bytes ⟨ts, m :: ms⟩ (some s) (.full []) (.pv (.slc [])) = some (.full [], m :: ms) := by
  simp [appendC, AV.slc?, sized]
theorem app_ownG {sz bytes : Nat} {ts : List AV} {vs : List (Nat × List AV)} {tk : List (Nat × Nat × Nat)} {ms : List Mem} {s dst : Nat} {es ys : List PV} {y : AV}
    (hy : y.slc? = some ys) (hs : sized sz ys = true) (hr : tk.lookup s = some (es.length, sz)) (hne : es.isEmpty = false) (hb : (es.length + ys.length) * bytes ≤ 140737488355328) :
    appendC sz bytes ⟨ts, ⟨vs, tk⟩ :: ms⟩ (some dst) (.own none s es) y = some (.own none s (es ++ ys), ⟨vs, setAt s (es.length + ys.length, sz) tk⟩ :: ms) := by
  have h0 : es.length ≠ 0 := by cases es <;> simp_all
  simp only [appendC, hy, hs, tokAt_top, d_cons, setTok_top, Option.getD_none, hr, Option.filter]
  simp [h0, hb]
abbrev wSt (l : List Int) (n i : Int) : St := rwith_t2 (.pv (.slc (ints l))) (I n) (I i) [⟨[], [(41, (0, 0)), (44, (0, 0)), (48, (0, 0))]⟩]
def withAt (l : List Int) (n : Int) (i : Nat) : List Int := if l[i]? = some n then l else l.take i ++ n :: l.drop i
theorem app_own {sz bytes : Nat} {ts : List AV} {vs : List (Nat × List AV)} {tk : List (Nat × Nat × Nat)} {ms : List Mem} {s dst : Nat} {es ys : List PV}
    (hs : sized sz ys = true) (hr : tk.lookup s = some (es.length, sz)) (hne : es.isEmpty = false) (hb : (es.length + ys.length) * bytes ≤ 140737488355328) :
    appendC sz bytes ⟨ts, ⟨vs, tk⟩ :: ms⟩ (some dst) (.own none s es) (.pv (.slc ys)) = some (.own none s (es ++ ys), ⟨vs, setAt s (es.length + ys.length, sz) tk⟩ :: ms) := app_ownG rfl hs hr hne hb
theorem appC_1 {sz bytes : Nat} {ts : List AV} {vs : List (Nat × List AV)} {tk : List (Nat × Nat × Nat)} {ms : List Mem} {s dst : Nat} {es : List PV} {p : PV}
    (hp : p.cells.length = sz) (hr : tk.lookup s = some (es.length, sz)) (hne : es.isEmpty = false) (hb : (es.length + 1) * bytes ≤ 140737488355328) :
    appendC sz bytes ⟨ts, ⟨vs, tk⟩ :: ms⟩ (some dst) (.own none s es) (.full [p]) = some (.own none s (es ++ [p]), ⟨vs, setAt s (es.length + 1, sz) tk⟩ :: ms) :=
  app_ownG (ys := [p]) rfl (by simp [sized, hp]) hr hne hb
theorem app_new1 {sz bytes : Nat} {ts : List AV} {vs : List (Nat × List AV)} {tk : List (Nat × Nat × Nat)} {ms : List Mem} {s : Nat} {p : PV}
    (hp : p.cells.length = sz) (hv : vs.lookup s = none) (hr : tk.lookup s = some (0, 0)) (hb : bytes ≤ 140737488355328) :
    appendC sz bytes ⟨ts, ⟨vs, tk⟩ :: ms⟩ (some s) (.full []) (.full [p]) = some (.own none s [p], ⟨vs, setAt s (1, sz) tk⟩ :: ms) := by
  have h := appendC_new (sz := sz) (bytes := bytes) (ts := ts) (ms := ms) (es := []) (p := p) hv hr rfl hp (by simpa using hb)
  simpa using h
theorem with_end {l : List Int} {i : Nat} {n : Int} (hi : i ≤ l.length) (hlen : l.length ≤ 1000000) (hge : ∀ x, l[i]? = some x → ¬ x < n) (st : St) (hst : St.forget (rwith_h.at 2) st = wSt l n i) :
    leaveR PP rwith_rs 0 (thenC (blockC 0 (rwith_L 2 st)) (acodeX PP RR [] rwith_L rwith_k2)) = some (.pv (.slc (ints (withAt l n i))), []) := by
  have hsT := slice_toI hi
  have hsF := slice_fromI hi
  have hll := ints_len l
  have hres : ints (l.take i) ++ (PV.int .i64 n :: ints (l.drop i)) = ints (l.take i ++ n :: l.drop i) := by simp [ints]
  have hT := sized_ints (l.take i)
  have hD := sized_ints (l.drop i)
  have hTl : (ints (l.take i)).length ≤ 1000000 := by rw [ints_len, List.length_take]; omega
  have hDl : (ints (l.drop i)).length ≤ 1000000 := by rw [ints_len, List.length_drop]; omega
  have hT0 : i = 0 → ints (l.take i) = [] := fun h => by rw [h]; rfl
  have hT1 : 0 < i → 0 < l.length → (ints (l.take i)).isEmpty = false := fun h h' => by
    have : (ints (l.take i)).length ≠ 0 := by rw [ints_len, List.length_take]; omega
    cases hq : ints (l.take i) with
    | nil => simp [hq] at this
    | cons => rfl
  rw [rwith_q2, hst]
  cases hg : l[i]? with
  | none =>
    have hn : ¬ (i : Int) < (l.length : Int) := by have := List.getElem?_eq_none_iff.mp hg; omega
    have hw : withAt l n i = l.take i ++ n :: l.drop i := by unfold withAt; rw [hg]; simp
    rw [hw, ← hres]
    by_cases h0 : i = 0
    · rw [hT0 h0] at hsT
      rw [hT0 h0]
      generalize ints (l.drop i) = D at hsF hD hDl
      have hb : (1 + D.length) * 8 ≤ 140737488355328 := by omega
      rw [rwith_e2]; simp only [rwith_k2, rwith_l2, rwith_b, rwith_rs, Try.f63, hll, hn, hsT, hsF, app_no, appC_1, app_own, app_new1, sized_ints, hD, hb, show sized 1 [] = true from rfl, F.EVT, Am.splice, Am.enterN, Am.freshMem, Am.cA, Am.cB, Am.cK, Am.cL, Am.cS, Am.cT, Am.cE, Am.aresults, Am.aresult, Am.codeKey, Am.frzTop, Am.spliceP, Nat.reduceAdd, Nat.reduceLeDiff, Nat.reduceBEq, Nat.reduceEqDiff, reduceIte, reduceCtorEq, Nat.reduceSub, Int.reduceBEq, Int.reduceSub, Int.reduceAdd, Int.reduceToNat, Int.reduceLT, Int.reduceLE, Int.reduceEq, Int.reduceNeg, Int.reduceBNe, Int.reduceGT, Int.reduceGE, Nat.reduceMul, Nat.reduceMod, Nat.reduceDiv]
      try rfl
    · have he := hT1 (by omega) (by omega)
      generalize ints (l.drop i) = D at hsF hD hDl
      generalize ints (l.take i) = T at hsT hT hTl he
      have hb0 : T.length * 8 ≤ 140737488355328 := by omega
      have hb1 : (T.length + 1) * 8 ≤ 140737488355328 := by omega
      have hb : (T.length + 1 + D.length) * 8 ≤ 140737488355328 := by omega
      have hne : (T ++ [PV.int .i64 n]).isEmpty = false := by cases T <;> rfl
      have hlT : (T ++ [PV.int .i64 n]).length = T.length + 1 := by simp
      rw [rwith_e2]; simp only [rwith_k2, rwith_l2, rwith_b, rwith_rs, Try.f63, hll, hn, hsT, hsF, app_new, appC_1, app_own, hT, he, hD, hb, hb0, hb1, hne, hlT, F.EVT, Am.splice, Am.enterN, Am.freshMem, Am.cA, Am.cB, Am.cK, Am.cL, Am.cS, Am.cT, Am.cE, Am.aresults, Am.aresult, Am.codeKey, Am.frzTop, Am.spliceP, Nat.reduceAdd, Nat.reduceLeDiff, Nat.reduceBEq, Nat.reduceEqDiff, reduceIte, reduceCtorEq, Nat.reduceSub, Int.reduceBEq, Int.reduceSub, Int.reduceAdd, Int.reduceToNat, Int.reduceLT, Int.reduceLE, Int.reduceEq, Int.reduceNeg, Int.reduceBNe, Int.reduceGT, Int.reduceGE, Nat.reduceMul, Nat.reduceMod, Nat.reduceDiv]
      try rfl
  | some x =>
    have hlt := (List.getElem?_eq_some_iff.mp hg).1
    have hn : (i : Int) < (l.length : Int) := by omega
    have hx := hge x hg
    have hw1 : IntKind.i64.wrap ((l.length : Int) - 1) = ((l.length - 1 : Nat) : Int) := by rw [wrap_ok (by omega) (by omega)]; omega
    have hmin : ¬ (((l.length - 1 : Nat) : Int) < (i : Int)) := by omega
    by_cases hxn : x = n
    · have hw : withAt l n i = l := by unfold withAt; rw [hg, hxn]; simp
      have hxb : (x == n) = true := by simpa using hxn
      rw [hw]
      rw [rwith_e2]; simp only [rwith_k2, rwith_l2, rwith_b, rwith_rs, Try.f63, hll, hn, hx, index_I hg, hw1, hmin, hxb, F.EVT, Am.splice, Am.enterN, Am.freshMem, Am.cA, Am.cB, Am.cK, Am.cL, Am.cS, Am.cT, Am.cE, Am.aresults, Am.aresult, Am.codeKey, Am.frzTop, Am.spliceP, Nat.reduceAdd, Nat.reduceLeDiff, Nat.reduceBEq, Nat.reduceEqDiff, reduceIte, reduceCtorEq, Nat.reduceSub, Int.reduceBEq, Int.reduceSub, Int.reduceAdd, Int.reduceToNat, Int.reduceLT, Int.reduceLE, Int.reduceEq, Int.reduceNeg, Int.reduceBNe, Int.reduceGT, Int.reduceGE, Nat.reduceMul, Nat.reduceMod, Nat.reduceDiv]
      try rfl
    · have hw : withAt l n i = l.take i ++ n :: l.drop i := by unfold withAt; rw [hg]; simp [hxn]
      have hxb : (x == n) = false := by simpa using hxn
      rw [hw, ← hres]
      by_cases h0 : i = 0
      · rw [hT0 h0] at hsT
        rw [hT0 h0]
        generalize ints (l.drop i) = D at hsF hD hDl
        have hb : (1 + D.length) * 8 ≤ 140737488355328 := by omega
        rw [rwith_e2]; simp only [rwith_k2, rwith_l2, rwith_b, rwith_rs, Try.f63, hll, hn, hx, index_I hg, hw1, hmin, hxb, hsT, hsF, app_no, appC_1, app_own, app_new1, sized_ints, hD, hb, show sized 1 [] = true from rfl, F.EVT, Am.splice, Am.enterN, Am.freshMem, Am.cA, Am.cB, Am.cK, Am.cL, Am.cS, Am.cT, Am.cE, Am.aresults, Am.aresult, Am.codeKey, Am.frzTop, Am.spliceP, Nat.reduceAdd, Nat.reduceLeDiff, Nat.reduceBEq, Nat.reduceEqDiff, reduceIte, reduceCtorEq, Nat.reduceSub, Int.reduceBEq, Int.reduceSub, Int.reduceAdd, Int.reduceToNat, Int.reduceLT, Int.reduceLE, Int.reduceEq, Int.reduceNeg, Int.reduceBNe, Int.reduceGT, Int.reduceGE, Nat.reduceMul, Nat.reduceMod, Nat.reduceDiv]
        try rfl
      · have he := hT1 (by omega) (by omega)
        generalize ints (l.drop i) = D at hsF hD hDl
        generalize ints (l.take i) = T at hsT hT hTl he
        have hb0 : T.length * 8 ≤ 140737488355328 := by omega
        have hb1 : (T.length + 1) * 8 ≤ 140737488355328 := by omega
        have hb : (T.length + 1 + D.length) * 8 ≤ 140737488355328 := by omega
        have hne : (T ++ [PV.int .i64 n]).isEmpty = false := by cases T <;> rfl
        have hlT : (T ++ [PV.int .i64 n]).length = T.length + 1 := by simp
        rw [rwith_e2]; simp only [rwith_k2, rwith_l2, rwith_b, rwith_rs, Try.f63, hll, hn, hx, index_I hg, hw1, hmin, hxb, hsT, hsF, app_new, appC_1, app_own, hT, he, hD, hb, hb0, hb1, hne, hlT, F.EVT, Am.splice, Am.enterN, Am.freshMem, Am.cA, Am.cB, Am.cK, Am.cL, Am.cS, Am.cT, Am.cE, Am.aresults, Am.aresult, Am.codeKey, Am.frzTop, Am.spliceP, Nat.reduceAdd, Nat.reduceLeDiff, Nat.reduceBEq, Nat.reduceEqDiff, reduceIte, reduceCtorEq, Nat.reduceSub, Int.reduceBEq, Int.reduceSub, Int.reduceAdd, Int.reduceToNat, Int.reduceLT, Int.reduceLE, Int.reduceEq, Int.reduceNeg, Int.reduceBNe, Int.reduceGT, Int.reduceGE, Nat.reduceMul, Nat.reduceMod, Nat.reduceDiv]
        try rfl
theorem with_loop {l : List Int} {n : Int} (hlen : l.length ≤ 1000000) : ∀ (k i : Nat) (st : St), l.length - i = k → i ≤ l.length → (∀ j x, j < i → l[j]? = some x → x < n) → St.forget (rwith_h.at 2) st = wSt l n i →
    ∃ i', i' ≤ l.length ∧ (∀ j x, j < i' → l[j]? = some x → x < n) ∧ (∀ x, l[i']? = some x → ¬ x < n) ∧ leaveR PP rwith_rs 0 (thenC (blockC 0 (rwith_L 2 st)) (acodeX PP RR [] rwith_L rwith_k2)) = some (.pv (.slc (ints (withAt l n i'))), [])
  | 0, i, st, hk, hi, hp, hst => ⟨i, hi, hp, fun x hx => by have := (List.getElem?_eq_some_iff.mp hx).1; omega, with_end hi hlen (fun x hx => by have := (List.getElem?_eq_some_iff.mp hx).1; omega) st hst⟩
  | k + 1, i, st, hk, hi, hp, hst => by
    have hlt : i < l.length := by omega
    have hg := List.getElem?_eq_getElem hlt
    generalize l[i] = x at hg
    by_cases hx : x < n
    · have hn : (i : Int) < (l.length : Int) := by omega
      have hll := ints_len l
      have hi' : i + 1 ≤ l.length := by omega
      obtain ⟨i', g1, g2, g3, g4⟩ := with_loop hlen k (i + 1) (wSt l n (i + 1 : Nat)) (by omega) hi' (fun j y hj hy => by
        by_cases hji : j = i
        · subst hji; rw [hg] at hy; cases hy; exact hx
        · exact hp j y (by omega) hy) (by kernel_rfl)
      refine ⟨i', g1, g2, g3, ?_⟩
      rw [← g4]
      rw [rwith_q2 st, hst]
      rw [rwith_e2]; simp only [rwith_l2, rwith_b, rwith_rs, Try.f63, hll, hn, hx, index_I hg, wrapS hlt (show l.length ≤ LIM by simp only [LIM]; omega), F.EVT, Am.splice, Am.enterN, Am.freshMem, Am.cA, Am.cB, Am.cK, Am.cL, Am.cS, Am.cT, Am.cE, Am.aresults, Am.aresult, Am.codeKey, Am.frzTop, Am.spliceP, Nat.reduceAdd, Nat.reduceLeDiff, Nat.reduceBEq, Nat.reduceEqDiff, reduceIte, reduceCtorEq, Nat.reduceSub, Int.reduceBEq, Int.reduceSub, Int.reduceAdd, Int.reduceToNat, Int.reduceLT, Int.reduceLE, Int.reduceEq, Int.reduceNeg, Int.reduceBNe, Int.reduceGT, Int.reduceGE, Nat.reduceMul, Nat.reduceMod, Nat.reduceDiv]
      rw [rwith_q2, rwith_q2 (wSt l n _)]
      rfl
    · exact ⟨i, hi, hp, fun y hy => by rw [hg] at hy; cases hy; exact hx, with_end hi hlen (fun y hy => by rw [hg] at hy; cases hy; exact hx) st hst⟩
theorem withAt_eq {n : Int} : ∀ {l : List Int} {i : Nat}, asc l → i ≤ l.length → (∀ j x, j < i → l[j]? = some x → x < n) → (∀ x, l[i]? = some x → ¬ x < n) → withAt l n i = withI l n
  | [], i, _, hi, _, _ => by
    have : i = 0 := by simpa using hi
    subst this
    rfl
  | y :: l, 0, ha, hi, hp, hq => by
    have hy := hq y rfl
    simp only [withI, if_neg hy]
    unfold withAt
    by_cases h : y = n
    · subst h; simp
    · rw [if_neg (by simpa using h), if_neg h]; rfl
  | y :: l, i + 1, ha, hi, hp, hq => by
    have hy := hp 0 y (by omega) rfl
    simp only [asc, List.pairwise_cons] at ha
    have ih := withAt_eq (i := i) ha.2 (by simpa using hi) (fun j x hj hx => hp (j + 1) x (by omega) (by simpa using hx)) (fun x hx => hq x (by simpa using hx))
    simp only [withI, if_pos hy, ← ih]
    unfold withAt
    simp only [List.getElem?_cons_succ]
    split
    · rfl
    · rfl
theorem with_ok {l : List Int} {n : Int} (hlen : l.length ≤ 1000000) (ha : asc l) : RR 63 [.pv (.slc (ints l)), I n] [] = some (.pv (.slc (ints (withI l n))), []) := by
  apply rwith_r
  have key : ∀ st, St.forget (rwith_h.at 2) st = wSt l n (0 : Nat) → leaveR PP rwith_rs 0 (thenC (blockC 0 (rwith_L 2 st)) (acodeX PP RR [] rwith_L rwith_k2)) = some (.pv (.slc (ints (withI l n))), []) := fun st hst => by
    obtain ⟨i', g1, g2, g3, g4⟩ := with_loop (n := n) hlen _ 0 st rfl (Nat.zero_le _) (fun j x hj => absurd hj (Nat.not_lt_zero _)) hst
    rw [g4, withAt_eq ha g1 g2 g3]
  generalize withI l n = r at key
  simp only [rwith_b, rwith_h, rwith_rs, Try.f63, F.EVT, Am.splice, Am.enterN, Am.freshMem, Am.cA, Am.cB, Am.cK, Am.cL, Am.cS, Am.cT, Am.cE, Am.aresults, Am.aresult, Am.codeKey, Am.frzTop, Am.spliceP, Nat.reduceAdd, Nat.reduceLeDiff, Nat.reduceBEq, Nat.reduceEqDiff, reduceIte, reduceCtorEq, Nat.reduceSub, Int.reduceBEq, Int.reduceSub, Int.reduceAdd, Int.reduceToNat, Int.reduceLT, Int.reduceLE, Int.reduceEq, Int.reduceNeg, Int.reduceBNe, Int.reduceGT, Int.reduceGE, Nat.reduceMul, Nat.reduceMod, Nat.reduceDiv]
  exact key _ (by kernel_rfl)
end Go.Proofs.Ytjbmdfdgeioecaa.X
