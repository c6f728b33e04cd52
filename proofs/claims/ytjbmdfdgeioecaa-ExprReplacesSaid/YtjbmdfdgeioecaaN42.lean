/- Inlining, by the code: the whole. -/
import Derived.Test.YtjbmdfdgeioecaaN27
import Derived.Test.YtjbmdfdgeioecaaN41
namespace Go.Proofs.Ytjbmdfdgeioecaa.X
open Go.Proofs.Ytjbmdfdgeioecaa.Am Go.Proofs.Ytjbmdfdgeioecaa.F
set_option linter.unusedVariables false
set_option linter.unusedSimpArgs false
set_option maxRecDepth 100000
set_option maxHeartbeats 1000000
theorem inline_ok {bs : List (Option E)} {fs : List Fn} {cols params : List Int} (hlen : fs.length ≤ bs.length) (hbs : ∀ b, some b ∈ bs → parts b ≤ 1000) : ∀ e : E, parts e ≤ 1000 → ∀ t, ty fs cols params e = some t → RR 48 [e.av, slB bs] [] = some (bodyAV (expE bs e), []) := by
  apply E.ind (p := fun e => parts e ≤ 1000 → ∀ t, ty fs cols params e = some t → RR 48 [e.av, slB bs] [] = some (bodyAV (expE bs e), []))
  intro e ih hp t ht
  rw [parts_eq] at hp
  have hn : e.args.length ≤ 1000 := by have := partsL_len e.args; omega
  obtain ⟨s1, s2, s3⟩ := ty_shape ht
  have hend : ∀ us : List E, us.length = e.args.length → (∀ u ∈ us, parts u ≤ 1000) → InGoal bs e us (expOp bs e.op e.n e.s us) := by
    intro us hul hus
    by_cases h22 : e.op = 22
    · have := s3 h22
      exact in_call h22 this.1 (by omega) hus hbs
    · cases us with
      | nil => exact in_nil h22
      | cons u us =>
        have h1 := partsL_le hus
        have h2 : (u :: us).length * 1000 ≤ 1000 * 1000 := Nat.mul_le_mul_right 1000 (by omega)
        exact in_cons h22 (by omega)
  have hloop := inline_loop (bs := bs) (e := e) (fun a ha => by obtain ⟨u, hu⟩ := s1 a ha; exact ih a ha (by have := partsL_mem ha; omega) u hu) (by omega) hend e.args 0 []
  simp only [List.nil_append] at hloop
  clear hend
  rw [expE_eq]
  apply inline_r
  generalize hr : some (bodyAV (match expL bs e.args with | some us => expOp bs e.op e.n e.s us | none => none), ([] : List Mem)) = r at hloop ⊢
  simp only [av_e e]
  simp only [inline_b, inline_h, inline_rs, Try.f48, F.EVT, Am.splice, Am.enterN, Am.freshMem, Am.cA, Am.cB, Am.cK, Am.cL, Am.cS, Am.cT, Am.cE, Am.aresults, Am.aresult, Am.codeKey, Am.frzTop, Am.spliceP, Nat.reduceAdd, Nat.reduceLeDiff, Nat.reduceBEq, Nat.reduceEqDiff, reduceIte, reduceCtorEq, Nat.reduceSub, Int.reduceBEq, Int.reduceSub, Int.reduceAdd, Int.reduceToNat, Int.reduceLT, Int.reduceLE, Int.reduceEq, Int.reduceNeg, Int.reduceBNe, Int.reduceGT, Int.reduceGE, Nat.reduceMul, Nat.reduceMod, Nat.reduceDiv]
  exact hloop _ rfl (Nat.zero_le _) rfl (fun u hu => by cases hu) (by kernel_rfl)
def bsL (acc : List (Option E)) : List Fn → List (Option E)
  | [] => acc
  | f :: fs => bsL (acc ++ [expE acc f.body]) fs
def inlE (fs : List Fn) (e : E) : Option E := match expE (bsL [] fs) e with | some x => if levels x > 12 then none else some x | none => none
def bps (bs : List (Option E)) : List PV := bs.map bodyPV
theorem bps_len (l : List (Option E)) : (bps l).length = l.length := List.length_map _
abbrev xiSt (fs : List Fn) (e : E) (bs : List (Option E)) (i : Int) : St := xInline_t3 (.ptr none 3 0) (.ptr none 4 0) (mkOwn 22 (bps bs)) (slF fs) (I fs.length) (I i) [⟨[(3, emem e), (4, zE)], [(22, rowT (bps bs) 5)]⟩]
theorem bs_parts {bs : List (Option E)} {e : E} (h : ∀ b, some b ∈ bs → parts b ≤ 1000) : ∀ b, some b ∈ bs ++ [expE bs e] → parts b ≤ 1000 := by
  intro b hb
  rcases List.mem_append.1 hb with hb | hb
  · exact h b hb
  · simp only [List.mem_singleton] at hb
    exact expE_parts hb.symm
theorem xInline_loop {fs : List Fn} {e : E} {cols params : List Int} {t : Int} (hn : fs.length ≤ 1000000) (hp : parts e ≤ 1000) (hR : FnsOK fs) (hb : ∀ f ∈ fs, parts f.body ≤ 1000) (ht : ty fs cols params e = some t) : ∀ (xs : List Fn) (i : Nat) (bs : List (Option E)) (st : St), fs.drop i = xs → i ≤ fs.length → bs.length = i → bsL bs xs = bsL [] fs → (∀ b, some b ∈ bs → parts b ≤ 1000) →
    St.forget (xInline_h.at 3) st = xiSt fs e bs i → leaveR PP xInline_rs 0 (thenC (blockC 0 (xInline_L 3 st)) (acodeX PP RR [] xInline_L xInline_k3)) = some (opAV (inlE fs e), [])
  | [], i, bs, st, h, hle, hts, hk, hq, hst => by
    have he : i = fs.length := by have := drop_nil' h; omega
    subst he
    have hx := inline_ok (cols := cols) (params := params) (by omega) hq e hp t ht
    rw [xInline_q3, hst]
    unfold inlE
    rw [← hk]
    simp only [bsL]
    cases hu : expE bs e with
    | none =>
      rw [hu] at hx
      simp only [bodyAV_none, av_e e, show slB bs = .pv (.slc (bps bs)) from rfl] at hx
      simp only [opAV, Option.getD_none, Option.isSome_none, z_av]
      rw [xInline_e3]; simp only [xInline_k3, xInline_l3, xInline_b, xInline_rs, Try.f21, Int.lt_irrefl, hx, F.EVT, Am.splice, Am.enterN, Am.freshMem, Am.cA, Am.cB, Am.cK, Am.cL, Am.cS, Am.cT, Am.cE, Am.aresults, Am.aresult, Am.codeKey, Am.frzTop, Am.spliceP, Nat.reduceAdd, Nat.reduceLeDiff, Nat.reduceBEq, Nat.reduceEqDiff, reduceIte, reduceCtorEq, Nat.reduceSub, Int.reduceBEq, Int.reduceSub, Int.reduceAdd, Int.reduceToNat, Int.reduceLT, Int.reduceLE, Int.reduceEq, Int.reduceNeg, Int.reduceBNe, Int.reduceGT, Int.reduceGE, Nat.reduceMul, Nat.reduceMod, Nat.reduceDiv]
      try rfl
    | some x =>
      rw [hu] at hx
      have hxp := expE_parts hu
      have hlv := levels_ok x (by omega)
      simp only [bodyAV_some, av_e e, av_e x, show slB bs = .pv (.slc (bps bs)) from rfl] at hx hlv
      simp only
      by_cases hl : levels x > 12
      · have hl' : (levels x : Int) > 12 := by omega
        rw [if_pos hl]
        simp only [opAV, Option.getD_none, Option.isSome_none, z_av]
        rw [xInline_e3]; simp only [xInline_k3, xInline_l3, xInline_b, xInline_rs, Try.f21, Int.lt_irrefl, hx, hlv, hl', F.EVT, Am.splice, Am.enterN, Am.freshMem, Am.cA, Am.cB, Am.cK, Am.cL, Am.cS, Am.cT, Am.cE, Am.aresults, Am.aresult, Am.codeKey, Am.frzTop, Am.spliceP, Nat.reduceAdd, Nat.reduceLeDiff, Nat.reduceBEq, Nat.reduceEqDiff, reduceIte, reduceCtorEq, Nat.reduceSub, Int.reduceBEq, Int.reduceSub, Int.reduceAdd, Int.reduceToNat, Int.reduceLT, Int.reduceLE, Int.reduceEq, Int.reduceNeg, Int.reduceBNe, Int.reduceGT, Int.reduceGE, Nat.reduceMul, Nat.reduceMod, Nat.reduceDiv]
        try rfl
      · have hl' : ¬ (levels x : Int) > 12 := by omega
        rw [if_neg hl]
        simp only [opAV, Option.getD_some, Option.isSome_some, av_e x]
        rw [xInline_e3]; simp only [xInline_k3, xInline_l3, xInline_b, xInline_rs, Try.f21, Int.lt_irrefl, hx, hlv, hl', F.EVT, Am.splice, Am.enterN, Am.freshMem, Am.cA, Am.cB, Am.cK, Am.cL, Am.cS, Am.cT, Am.cE, Am.aresults, Am.aresult, Am.codeKey, Am.frzTop, Am.spliceP, Nat.reduceAdd, Nat.reduceLeDiff, Nat.reduceBEq, Nat.reduceEqDiff, reduceIte, reduceCtorEq, Nat.reduceSub, Int.reduceBEq, Int.reduceSub, Int.reduceAdd, Int.reduceToNat, Int.reduceLT, Int.reduceLE, Int.reduceEq, Int.reduceNeg, Int.reduceBNe, Int.reduceGT, Int.reduceGE, Nat.reduceMul, Nat.reduceMod, Nat.reduceDiv]
        try rfl
  | f :: xs, i, bs, st, h, hle, hts, hk, hq, hst => by
    obtain ⟨hlt, hi, hd⟩ := drop_cons h
    have hlt' : (i : Int) < fs.length := by omega
    obtain ⟨r1, r2⟩ := hR i f hi
    have hx := inline_ok (bs := bs) (by rw [List.length_take]; omega) hq f.body (hb f (List.mem_of_getElem? hi)) _ r1
    have hbb : ((bps bs).length + 1) * 64 ≤ 140737488355328 := by rw [bps_len]; omega
    have hap : bps bs ++ [bodyPV (expE bs f.body)] = bps (bs ++ [expE bs f.body]) := by simp [bps]
    have hq' := bs_parts (e := f.body) hq
    have hk' : bsL (bs ++ [expE bs f.body]) xs = bsL [] fs := hk
    generalize expE bs f.body = o at hx hap hq' hk'
    simp only [av_e f.body, bodyAV, bodyPV, show slB bs = .pv (.slc (bps bs)) from rfl] at hx hap
    rw [xInline_q3, hst]
    generalize hr : some (opAV (inlE fs e), ([] : List Mem)) = r
    rw [xInline_e3]; simp only [xInline_l3, xInline_b, xInline_rs, Try.f21, index_F hi, hlt', hx, hbb, hap, wrapS hlt (show fs.length ≤ LIM by simp only [LIM]; omega), F.EVT, Am.splice, Am.enterN, Am.freshMem, Am.cA, Am.cB, Am.cK, Am.cL, Am.cS, Am.cT, Am.cE, Am.aresults, Am.aresult, Am.codeKey, Am.frzTop, Am.spliceP, Nat.reduceAdd, Nat.reduceLeDiff, Nat.reduceBEq, Nat.reduceEqDiff, reduceIte, reduceCtorEq, Nat.reduceSub, Int.reduceBEq, Int.reduceSub, Int.reduceAdd, Int.reduceToNat, Int.reduceLT, Int.reduceLE, Int.reduceEq, Int.reduceNeg, Int.reduceBNe, Int.reduceGT, Int.reduceGE, Nat.reduceMul, Nat.reduceMod, Nat.reduceDiv]
    rw [← hr]
    exact xInline_loop hn hp hR hb ht xs (i + 1) (bs ++ [o]) _ hd hlt (by simp [hts]) hk' hq' (by delta xiSt; generalize bps (bs ++ [o]) = E; cases E <;> kernel_rfl)
theorem fair_parts60 {fs : List Fn} (h : fairB fs = true) : ∀ f ∈ fs, parts f.body ≤ 60 := by
  intro f hf
  unfold fairB at h
  simp only [Bool.and_eq_true] at h
  have h1 := List.all_eq_true.1 h.1 f hf
  unfold fairF at h1
  simp only [Bool.and_eq_true, Bool.not_eq_true', decide_eq_false_iff_not] at h1
  have := light_parts f.body 60 20 (by omega)
  omega
theorem xInline_ok {fs : List Fn} {e : E} {row : List V} {t : Int} (G : Good fs e row t) (hp : parts e ≤ 1000) : RR 21 [slF fs, e.av] [] = some (opAV (inlE fs e), []) := by
  have hn : fs.length ≤ 1000000 := by have := G.fair; unfold fairB at this; simp only [Bool.and_eq_true, decide_eq_true_eq] at this; omega
  have hloop := xInline_loop hn hp G.fns (fun f hf => by have := fair_parts60 G.fair f hf; omega) G.ty fs 0 []
  apply xInline_r
  generalize hr : some (opAV (inlE fs e), ([] : List Mem)) = r at hloop ⊢
  simp only [av_e e]
  simp only [xInline_b, xInline_h, xInline_rs, Try.f21, F.EVT, Am.splice, Am.enterN, Am.freshMem, Am.cA, Am.cB, Am.cK, Am.cL, Am.cS, Am.cT, Am.cE, Am.aresults, Am.aresult, Am.codeKey, Am.frzTop, Am.spliceP, Nat.reduceAdd, Nat.reduceLeDiff, Nat.reduceBEq, Nat.reduceEqDiff, reduceIte, reduceCtorEq, Nat.reduceSub, Int.reduceBEq, Int.reduceSub, Int.reduceAdd, Int.reduceToNat, Int.reduceLT, Int.reduceLE, Int.reduceEq, Int.reduceNeg, Int.reduceBNe, Int.reduceGT, Int.reduceGE, Nat.reduceMul, Nat.reduceMod, Nat.reduceDiv]
  exact hloop _ rfl (Nat.zero_le _) rfl rfl (fun b hb => by cases hb) (by kernel_rfl)
end Go.Proofs.Ytjbmdfdgeioecaa.X
