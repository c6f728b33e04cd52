/- The plain laws of the references. Conditions: as each states. -/
import Derived.Test.YtkaheioacolemaaPl5
import Derived.Test.YtkaheioacolemaaXTx12
import Derived.Test.YtkaheioacolemaaXTx13
namespace Go.Proofs.Ytkaheioacolemaa.XT
open Go.RowKit Go.Proofs.YtkaheioacolemaaW.PrintWords Go.Proofs.YtkaheioacolemaaW.PrintLast Go.Proofs.YtkaheioacolemaaW.PrintMore Go.Proofs.Ytkaheioacolemaa.B
set_option linter.unusedVariables false
set_option linter.unusedSimpArgs false

/-! ### the reference's Right, At and Same -/
theorem refRight_loop (l : List S34) (hl : l.length < 4611686018427387904) (h0 : 0 < l.length) (x0 : S34) (hx0 : l[0]? = some x0) : ∀ (xs : List S34) (i : Nat) (b0 b1 : Int), l.drop i = xs →
    Ev (fun k => errataref45_Right.l0 k l (i : Int) b0 b1) (chain ⟨b0, b1⟩ xs && (x0.f0 == 0)) := by
  intro xs
  induction xs with
  | nil =>
    intro i b0 b1 hd
    have hn := drop_nil hd
    have n2 : 0 < (l.length : Int) := by omega
    refine Ev.succ ?_
    have e0 : rd_T34 l 0 = x0 := rd34 hx0
    simp only [errataref45_Right.l0, not_lt_cast hn, if_false, n2, if_true, e0, chain, Bool.true_and]
    exact Ev.now _
  | cons x xs ih =>
    intro i b0 b1 hd
    obtain ⟨hi, hx, hd⟩ := drop_cons hd
    have ih := ih (i + 1) x.f0 x.f1 hd
    have e2 := wrap_succ (i := i) (by omega)
    refine Ev.succ ?_
    simp only [errataref45_Right.l0, lt_cast hi, zero_le_cast, rd34 hx, if_true, e2]
    by_cases h1 : x.f0 ≤ b0
    · simp only [h1, if_true]
      refine Ev.none_k ?_
      simp only [chain, okS]
      rw [show decide (b0 < x.f0) = false from decide_eq_false (by omega)]
      simp
    · by_cases h2 : x.f0 > 1099511627776
      · simp only [h1, h2, if_true, if_false]
        refine Ev.none_k ?_
        simp only [chain, okS]
        rw [show decide (x.f0 ≤ 1099511627776) = false from decide_eq_false (by omega)]
        simp
      · by_cases h3 : x.f1 < 1
        · simp only [h1, h2, h3, if_true, if_false]
          refine Ev.none_k ?_
          simp only [chain, okS]
          rw [show decide (1 ≤ x.f1) = false from decide_eq_false (by omega)]
          simp
        · by_cases h4 : x.f1 > 50
          · simp only [h1, h2, h3, h4, if_true, if_false]
            refine Ev.none_k ?_
            simp only [chain, okS]
            rw [show decide (x.f1 ≤ 50) = false from decide_eq_false (by omega)]
            simp
          · by_cases h5 : x.f1 = b1
            · simp only [h1, h2, h3, h4, h5, if_true, if_false]
              refine Ev.none_k ?_
              simp [chain, okS, h5]
            · simp only [h1, h2, h3, h4, h5, if_false]
              refine ev_eq ih ?_
              simp only [chain, okS]
              rw [decide_eq_true (show b0 < x.f0 by omega), decide_eq_true (show x.f0 ≤ 1099511627776 by omega), decide_eq_true (show 1 ≤ x.f1 by omega), decide_eq_true (show x.f1 ≤ 50 by omega), show (x.f1 == b1) = false from by simpa using h5]
              simp

theorem refRight_ev (l : List S34) (hl : l.length < 4611686018427387904) : Ev (fun k => errataref45_Right.f k l) (right l) := by
  cases l with
  | nil =>
    unfold errataref45_Right.f
    simp only [List.length_nil, Int.natCast_zero, Int.ofNat_zero, if_true]
    exact Ev.now _
  | cons x xs =>
    unfold errataref45_Right.f
    have n1 : ¬ (((x :: xs).length : Int) = 0) := by simp only [List.length_cons]; omega
    simp only [n1, if_false]
    refine ev_eq (refRight_loop (x :: xs) hl (by simp) x rfl (x :: xs) 0 (-1) 0 rfl) ?_
    simp only [chain, okS, right]
    by_cases h0 : x.f0 = 0
    · by_cases h1 : x.f1 = 0
      · rw [h1]
        simp
      · rw [show (x.f1 == 0) = false from by simpa using h1, h0]
        simp
    · rw [show (x.f0 == 0) = false from by simpa using h0]
      simp

def atr (v : Int) : List S34 → Int → Int
  | [], _ => v
  | x :: xs, t => atr (if x.f0 ≤ t then x.f1 else v) xs t
theorem atr_late {v : Int} {xs : List S34} {t : Int} (h : ∀ x ∈ xs, t < x.f0) : atr v xs t = v := by
  induction xs with
  | nil => rfl
  | cons x xs ih =>
    have := h x (by simp)
    simp only [atr]
    rw [if_neg (by omega)]
    exact ih (fun y hy => h y (by simp [hy]))
theorem atr_eq {v : Int} {p : S34} {xs : List S34} {t : Int} (h : chain p xs = true) : atr v xs t = atf v xs t := by
  induction xs generalizing p v with
  | nil => rfl
  | cons x xs ih =>
    obtain ⟨h1, h2⟩ := chain_cons h
    simp only [atr, atf]
    by_cases hx : x.f0 ≤ t
    · rw [if_pos hx, if_pos hx]
      exact ih h2
    · rw [if_neg hx, if_neg hx]
      exact atr_late (fun y hy => by have := chain_all h2 y hy; omega)
theorem refAt_loop (l : List S34) (hl : l.length < 4611686018427387904) (t : Int) : ∀ (xs : List S34) (i : Nat) (v : Int), l.drop i = xs → Ev (fun k => errataref45_At.l0 k l t v (i : Int)) (atr v xs t) := by
  intro xs
  induction xs with
  | nil =>
    intro i v hd
    have hn := drop_nil hd
    refine Ev.succ ?_
    simp only [errataref45_At.l0, not_lt_cast hn, if_false]
    exact Ev.now _
  | cons x xs ih =>
    intro i v hd
    obtain ⟨hi, hx, hd⟩ := drop_cons hd
    have e2 := wrap_succ (i := i) (by omega)
    refine Ev.succ ?_
    simp only [errataref45_At.l0, lt_cast hi, zero_le_cast, rd34 hx, if_true, e2]
    by_cases h1 : x.f0 ≤ t
    · simp only [h1, if_true, atr]
      exact ih (i + 1) _ hd
    · simp only [h1, if_false, atr]
      exact ih (i + 1) _ hd
theorem refAt_ev {l : List S34} {t : Int} (h : right l = true) (hl : l.length < 4611686018427387904) : Ev (fun k => errataref45_At.f k l t) (atS l t) := by
  cases l with
  | nil => cases h
  | cons p xs =>
    obtain ⟨h0, _, _, hc⟩ := right_cons h
    have n2 : 0 < ((p :: xs).length : Int) := by simp only [List.length_cons]; omega
    have e0 : rd_T34 (p :: xs) 0 = p := rd34 (i := 0) rfl
    unfold errataref45_At.f
    simp only [n2, if_true, e0]
    refine ev_eq (refAt_loop (p :: xs) hl t (p :: xs) 0 p.f1 rfl) ?_
    simp only [atr, ite_self, atS]
    exact atr_eq hc

theorem refSame_loop (a b : List S34) (hl : a.length < 4611686018427387904) (he : a.length = b.length) : ∀ (xs ys : List S34) (i : Nat), a.drop i = xs → b.drop i = ys →
    Ev (fun k => errataref45_Same.l0 k a b (i : Int)) (eqL xs ys) := by
  intro xs
  induction xs with
  | nil =>
    intro ys i hd hd'
    have hn := drop_nil hd
    obtain rfl : ys = [] := by rw [← hd']; exact List.drop_of_length_le (by omega)
    refine Ev.succ ?_
    simp only [errataref45_Same.l0, not_lt_cast hn, if_false]
    exact Ev.now _
  | cons x xs ih =>
    intro ys i hd hd'
    obtain ⟨hi, hx, hd⟩ := drop_cons hd
    cases ys with
    | nil => have := drop_nil hd'; omega
    | cons y ys =>
      obtain ⟨hi', hy, hd'⟩ := drop_cons hd'
      have e2 := wrap_succ (i := i) (by omega)
      refine Ev.succ ?_
      simp only [errataref45_Same.l0, lt_cast hi, lt_cast hi', zero_le_cast, rd34 hx, rd34 hy, if_true, e2]
      by_cases h0 : x.f0 = y.f0
      · by_cases h1 : x.f1 = y.f1
        · have hb : (!(x.f0 == y.f0) || !(x.f1 == y.f1)) = false := by simp [h0, h1]
          simp only [hb, Bool.false_eq_true, if_false]
          refine ev_eq (ih ys (i + 1) hd hd') ?_
          simp [eqL, h0, h1]
        · have hb : (!(x.f0 == y.f0) || !(x.f1 == y.f1)) = true := by simp [h1]
          simp only [hb, if_true]
          refine Ev.none_k ?_
          simp [eqL, h1]
      · have hb : (!(x.f0 == y.f0) || !(x.f1 == y.f1)) = true := by simp [h0]
        simp only [hb, if_true]
        refine Ev.none_k ?_
        simp [eqL, h0]
theorem refSame_ev (a b : List S34) (hl : a.length < 4611686018427387904) : Ev (fun k => errataref45_Same.f k a b) (eqL a b) := by
  unfold errataref45_Same.f
  by_cases he : a.length = b.length
  · have h : ((a.length : Int) = (b.length : Int)) = True := eq_true (by omega)
    simp only [h, if_true]
    exact refSame_loop a b hl he a b 0 rfl rfl
  · have h : ((a.length : Int) = (b.length : Int)) = False := eq_false (by omega)
    simp only [h, if_false]
    exact Ev.none_k (by rw [eqL_len he])
/-! ### the reference's Replace -/
def refRep (last : Int) : List S34 → Int → Int → List S34
  | [], a, v => if last = v then [] else [⟨a, v⟩]
  | x :: xs, a, v => if x.f0 < a then x :: refRep x.f1 xs a v else refRep last xs a v
theorem refRep_late {last : Int} {xs : List S34} {a v : Int} (h : ∀ x ∈ xs, a ≤ x.f0) : refRep last xs a v = if last = v then [] else [⟨a, v⟩] := by
  induction xs with
  | nil => rfl
  | cons x xs ih =>
    have := h x (by simp)
    simp only [refRep]
    rw [if_neg (by omega)]
    exact ih (fun y hy => h y (by simp [hy]))
theorem refRep_eq {p : S34} {xs : List S34} {a v : Int} (h : chain p xs = true) : refRep p.f1 xs a v = repf p.f1 xs a v := by
  induction xs generalizing p with
  | nil => rfl
  | cons x xs ih =>
    obtain ⟨h1, hc⟩ := chain_cons h
    simp only [refRep, repf]
    split
    · rw [ih hc]
    · rename_i hge
      exact refRep_late (fun y hy => by have := chain_all hc y hy; omega)
theorem refReplace_loop (l : List S34) (hl : l.length < 8796093022207) (a v : Int) : ∀ (xs : List S34) (i : Nat) (out : List S34) (last : Int), l.drop i = xs → i ≤ l.length → out.length ≤ i →
    Ev (fun k => errataref45_Replace.l0 k l a v out last (i : Int)) (out ++ refRep last xs a v, 0) := by
  intro xs
  induction xs with
  | nil =>
    intro i out last hd hil ho
    have hn := drop_nil hd
    have hlt : out.length < 8796093022208 := by omega
    refine Ev.succ ?_
    simp only [errataref45_Replace.l0, not_lt_cast hn, if_false, hlt, if_true]
    refine Ev.none_k ?_
    simp only [refRep]
    split <;> simp
  | cons x xs ih =>
    intro i out last hd hil ho
    obtain ⟨hi, hx, hd⟩ := drop_cons hd
    have e2 := wrap_succ (i := i) (by omega)
    have hlt : out.length < 8796093022208 := by omega
    refine Ev.succ ?_
    simp only [errataref45_Replace.l0, lt_cast hi, zero_le_cast, rd34 hx, if_true, hlt, e2]
    by_cases h1 : x.f0 < a
    · simp only [h1, if_true]
      refine ev_eq (ih (i + 1) (out ++ [x]) x.f1 hd (by omega) (by simp; omega)) ?_
      simp [refRep, h1]
    · simp only [h1, if_false]
      refine ev_eq (ih (i + 1) out last hd (by omega) (by omega)) ?_
      simp [refRep, h1]
theorem refReplace_ev {l : List S34} {a v : Int} (h : right l = true) (hl : l.length < 8796093022207) (h0 : 0 ≤ a) (ha : a ≤ 1099511627776) (h1 : 1 ≤ v) (h2 : v ≤ 50) :
    Ev (fun k => errataref45_Replace.f k l a v) (repS l a v, 0) := by
  have n1 : ¬ a < 0 := by omega
  have n2 : ¬ a > 1099511627776 := by omega
  have n3 : ¬ v < 1 := by omega
  have n4 : ¬ v > 50 := by omega
  unfold errataref45_Replace.f
  simp only [n1, n2, n3, n4, if_false, decide_false]
  refine Ev.succ ?_
  simp only [errataref45_Replace.j0, Bool.false_eq_true, if_false]
  refine ev_eq (refReplace_loop l hl a v l 0 [] 0 rfl (Nat.zero_le _) (Nat.le_refl _)) ?_
  cases l with
  | nil => cases h
  | cons p xs =>
    obtain ⟨p0, p1, p2, hc⟩ := right_cons h
    simp only [List.nil_append, refRep, repS]
    split
    · rw [refRep_eq hc]
    · rename_i hge
      rw [refRep_late (fun y hy => by have := chain_all hc y hy; omega), if_neg (by omega)]
theorem refReplace_bad {l : List S34} {a v : Int} (h : a < 0 ∨ 1099511627776 < a ∨ v < 1 ∨ 50 < v) : Ev (fun k => errataref45_Replace.f k l a v) ([], 3) := by
  unfold errataref45_Replace.f
  have hj : Ev (fun k => errataref45_Replace.j0 k l a v true) ([], 3) := by
    refine Ev.succ ?_
    simp only [errataref45_Replace.j0, if_true]
    exact Ev.now _
  by_cases h1 : a < 0
  · simp only [h1, if_true]
    exact hj
  · by_cases h2 : a > 1099511627776
    · simp only [h1, h2, if_true, if_false]
      exact hj
    · by_cases h3 : v < 1
      · simp only [h1, h2, h3, if_true, if_false]
        exact hj
      · have h4 : v > 50 := by omega
        simp only [h1, h2, h3, h4, if_false, decide_true]
        exact hj

/-! ### the reference's Versions -/
def hasL (closed v : Int) : List S34 → Bool
  | [] => false
  | [p] => decide (p.f1 = v)
  | p :: x :: xs => (decide (p.f1 = v) && decide (x.f0 - 1 > closed)) || hasL closed v (x :: xs)
theorem hasL_any {closed v : Int} {p : S34} {xs : List S34} (h : ∀ x ∈ xs, x.f0 - 1 > closed) : hasL closed v (p :: xs) = (p :: xs).any (fun s => decide (s.f1 = v)) := by
  induction xs generalizing p with
  | nil => simp [hasL]
  | cons x xs ih =>
    have hx := h x (by simp)
    simp only [hasL]
    rw [ih (fun y hy => h y (by simp [hy]))]
    simp [hx]
theorem hasL_open {closed v : Int} {p : S34} {xs : List S34} (h : chain p xs = true) : hasL closed v (p :: xs) = (opn (mn closed 1099511627776) p xs).any (fun s => decide (s.f1 = v)) := by
  induction xs generalizing p with
  | nil => simp [hasL, opn]
  | cons x xs ih =>
    obtain ⟨h1, hc⟩ := chain_cons h
    have hm : mn closed 1099511627776 ≤ closed ∧ (mn closed 1099511627776 = closed ∨ mn closed 1099511627776 = 1099511627776) := by unfold mn; split <;> omega
    by_cases hx : x.f0 ≤ mn closed 1099511627776 + 1
    · have h2 : ¬ x.f0 - 1 > closed := by omega
      simp only [hasL, opn, hx, if_true, h2, decide_false, Bool.and_false, Bool.false_or]
      exact ih hc
    · simp only [opn, hx, if_false]
      refine hasL_any (fun y hy => ?_)
      rcases List.mem_cons.1 hy with rfl | hy
      · omega
      · have := chain_all hc y hy
        omega
theorem end_last {l : List S34} {i : Nat} (hi : i + 1 = l.length) (hl : l.length < 4611686018427387904) : errataref45_end.f l (i : Int) = some 1099511627777 := by
  unfold errataref45_end.f
  rw [wrap_succ (by omega), if_neg (by omega)]
theorem end_next {l : List S34} {i : Nat} {x : S34} (hx : l[i + 1]? = some x) (hl : l.length < 4611686018427387904) : errataref45_end.f l (i : Int) = some x.f0 := by
  have := (List.getElem?_eq_some_iff.1 hx).1
  unfold errataref45_end.f
  rw [wrap_succ (by omega), if_pos (by omega), if_pos (by omega), rd34 hx]
theorem refVersions_l1 (l : List S34) (hl : l.length < 4611686018427387904) (hf : ∀ x ∈ l, 0 ≤ x.f0 ∧ x.f0 ≤ 1099511627776) (closed : Int) (acc : List Int) (ha : acc.length < 17592186044416) (v : Int) (r : List Int) (b : Bool)
    (hnext : Ev (fun k => errataref45_Versions.l0 k l closed (if b then acc ++ [v] else acc) (wrap64 (v + 1))) r) : ∀ (xs : List S34) (i : Nat) (fl : Bool), l.drop i = xs → (fl || hasL closed v xs) = b →
    Ev (fun k => errataref45_Versions.l1 k l closed acc v fl (i : Int)) r := by
  intro xs
  induction xs with
  | nil =>
    intro i fl hd hb
    have hn := drop_nil hd
    have hb : fl = b := by simpa [hasL] using hb
    subst hb
    refine Ev.succ ?_
    cases fl with
    | true =>
      simp only [errataref45_Versions.l1, not_lt_cast hn, if_false, if_true, ha]
      simpa using hnext
    | false =>
      simp only [errataref45_Versions.l1, not_lt_cast hn, if_false, Bool.false_eq_true]
      simpa using hnext
  | cons x xs ih =>
    intro i fl hd hb
    obtain ⟨hi, hx, hd⟩ := drop_cons hd
    have e2 := wrap_succ (i := i) (by omega)
    have ew : wrap64 ((l.length : Int) - 1) = ((l.length - 1 : Nat) : Int) := by rw [wrap_id (by omega) (by omega)]; omega
    refine Ev.succ ?_
    cases fl with
    | true =>
      simp only [errataref45_Versions.l1, lt_cast hi, if_true, e2]
      exact ih (i + 1) true hd (by simpa using hb)
    | false =>
      simp only [errataref45_Versions.l1, lt_cast hi, if_true, Bool.false_eq_true, if_false, zero_le_cast, rd34 hx, ew, e2]
      by_cases h1 : x.f1 = v
      · simp only [h1, if_true]
        cases xs with
        | nil =>
          have hn := drop_nil hd
          have hlast : ((i : Int) = ((l.length - 1 : Nat) : Int)) = True := eq_true (by omega)
          simp only [hlast, if_true]
          refine ih (i + 1) true hd ?_
          simpa [hasL, h1] using hb
        | cons y ys =>
          obtain ⟨hi2, hy, _⟩ := drop_cons hd
          have hlast : ((i : Int) = ((l.length - 1 : Nat) : Int)) = False := eq_false (by omega)
          have hym := hf y (List.mem_of_getElem? hy)
          have ewy : wrap64 (y.f0 - 1) = y.f0 - 1 := wrap_id (by omega) (by omega)
          simp only [hlast, if_false, end_next hy hl, Option.bind_some, ewy]
          refine ih (i + 1) _ hd ?_
          simpa [hasL, h1] using hb
      · simp only [h1, if_false]
        refine ih (i + 1) false hd ?_
        cases xs with
        | nil => simpa [hasL, h1] using hb
        | cons y ys => simpa [hasL, h1] using hb
theorem refVersions_l0 (l : List S34) (hl : l.length < 4611686018427387904) (hf : ∀ x ∈ l, 0 ≤ x.f0 ∧ x.f0 ≤ 1099511627776) (closed : Int) : ∀ (d : Nat) (v : Int) (acc : List Int), v + d = 51 → 1 ≤ v → acc.length + d ≤ 60 →
    ∃ r : List Int, Ev (fun k => errataref45_Versions.l0 k l closed acc v) (acc ++ r) ∧ r.Pairwise (· < ·) ∧ ∀ w, w ∈ r ↔ v ≤ w ∧ w ≤ 50 ∧ hasL closed w l = true := by
  intro d
  induction d with
  | zero =>
    intro v acc hd h1 ha
    have hn : ¬ v ≤ 50 := by omega
    refine ⟨[], ?_, by simp, fun w => by simp; omega⟩
    refine Ev.succ ?_
    simp only [errataref45_Versions.l0, hn, if_false, List.append_nil]
    exact Ev.now _
  | succ d ih =>
    intro v acc hd h1 ha
    have hn : v ≤ 50 := by omega
    have ew : wrap64 (v + 1) = v + 1 := wrap_id (by omega) (by omega)
    obtain ⟨r, hr1, hr2, hr3⟩ := ih (v + 1) (if hasL closed v l then acc ++ [v] else acc) (by omega) (by omega) (by split <;> (try simp only [List.length_append, List.length_singleton]) <;> omega)
    have h0 : Ev (fun k => errataref45_Versions.l0 k l closed acc v) ((if hasL closed v l then acc ++ [v] else acc) ++ r) := by
      refine Ev.succ ?_
      simp only [errataref45_Versions.l0, hn, if_true]
      exact refVersions_l1 l hl hf closed acc (by omega) v _ (hasL closed v l) (by rw [ew]; exact hr1) l 0 false rfl (by simp)
    cases hh : hasL closed v l with
    | true =>
      rw [hh] at h0
      refine ⟨v :: r, by simpa using h0, List.pairwise_cons.2 ⟨fun w hw => by have := (hr3 w).1 hw; omega, hr2⟩, fun w => ?_⟩
      rw [List.mem_cons, hr3]
      constructor
      · rintro (rfl | ⟨h2, h3, h4⟩)
        · exact ⟨Int.le_refl _, hn, hh⟩
        · exact ⟨by omega, h3, h4⟩
      · rintro ⟨h2, h3, h4⟩
        by_cases e : w = v
        · exact .inl e
        · exact .inr ⟨by omega, h3, h4⟩
    | false =>
      rw [hh] at h0
      refine ⟨r, by simpa using h0, hr2, fun w => ?_⟩
      rw [hr3]
      constructor
      · rintro ⟨h2, h3, h4⟩
        exact ⟨by omega, h3, h4⟩
      · rintro ⟨h2, h3, h4⟩
        by_cases e : w = v
        · subst e
          rw [hh] at h4
          cases h4
        · exact ⟨by omega, h3, h4⟩
theorem refVersions_ev {l : List S34} (h : right l = true) (hl : l.length < 4611686018427387904) (closed : Int) : Ev (fun k => errataref45_Versions.f k l closed) (vers (l.drop (openFrom l closed))) := by
  obtain ⟨r, h1, h2, h3⟩ := refVersions_l0 l hl (fun x hx => ⟨(right_bounds h x hx).1, (right_bounds h x hx).2.1⟩) closed 50 1 [] (by omega) (by omega) (by simp)
  have hv : vers (l.drop (openFrom l closed)) = r := by
    refine vers_eq h2 (fun w => ?_)
    rw [h3]
    cases l with
    | nil => cases h
    | cons p xs =>
      obtain ⟨p0, p1, p2, hc⟩ := right_cons h
      rw [drop_open hc, hasL_open hc, List.any_eq_true, List.mem_map]
      constructor
      · rintro ⟨_, _, y, hy, he⟩
        exact ⟨y, hy, by simpa using he⟩
      · rintro ⟨y, hy, rfl⟩
        have := right_bounds h y (opn_sub y hy)
        exact ⟨by omega, by omega, y, hy, by simp⟩
  rw [hv]
  unfold errataref45_Versions.f
  simpa using h1
theorem openFrom_all {l : List S34} (h : right l = true) : openFrom l (-1) = 0 := by
  cases l with
  | nil => rfl
  | cons p xs =>
    obtain ⟨p0, p1, p2, hc⟩ := right_cons h
    unfold openFrom
    have e : mn (-1) 1099511627776 + 1 = 0 := by decide
    rw [e, List.countP_cons_of_pos (by simp; omega), count_none hc (by omega)]
    rfl

/-! ### the reference's Spans and Pick -/
theorem refSpans_loop (l : List S34) (hl : l.length < 8796093022207) (v : Int) : ∀ (xs : List S34) (i : Nat) (out : List S34), l.drop i = xs → i ≤ l.length → out.length ≤ i →
    Ev (fun k => errataref45_Spans.l0 k l v out (i : Int)) (out ++ spanL v xs) := by
  intro xs
  induction xs with
  | nil =>
    intro i out hd hil ho
    have hn := drop_nil hd
    refine Ev.succ ?_
    simp only [errataref45_Spans.l0, not_lt_cast hn, if_false, spanL, List.append_nil]
    exact Ev.now _
  | cons x xs ih =>
    intro i out hd hil ho
    obtain ⟨hi, hx, hd⟩ := drop_cons hd
    have e2 := wrap_succ (i := i) (by omega)
    have hlt : out.length < 8796093022208 := by omega
    refine Ev.succ ?_
    cases xs with
    | nil =>
      have hn := drop_nil hd
      simp only [errataref45_Spans.l0, lt_cast hi, zero_le_cast, rd34 hx, if_true, hlt, e2, end_last (show i + 1 = l.length by omega) (by omega), Option.bind_some]
      by_cases h1 : x.f1 = v
      · simp only [h1, if_true]
        refine ev_eq (ih (i + 1) (out ++ [⟨x.f0, 1099511627777⟩]) hd (by omega) (by simp; omega)) ?_
        simp [spanL, h1]
      · simp only [h1, if_false]
        refine ev_eq (ih (i + 1) out hd (by omega) (by omega)) ?_
        simp [spanL, h1]
    | cons y ys =>
      obtain ⟨hi2, hy, _⟩ := drop_cons hd
      simp only [errataref45_Spans.l0, lt_cast hi, zero_le_cast, rd34 hx, if_true, hlt, e2, end_next hy (by omega), Option.bind_some]
      by_cases h1 : x.f1 = v
      · simp only [h1, if_true]
        refine ev_eq (ih (i + 1) (out ++ [⟨x.f0, y.f0⟩]) hd (by omega) (by simp; omega)) ?_
        simp [spanL, h1]
      · simp only [h1, if_false]
        refine ev_eq (ih (i + 1) out hd (by omega) (by omega)) ?_
        simp [spanL, h1]
theorem refSpans_ev (l : List S34) (hl : l.length < 8796093022207) (v : Int) : Ev (fun k => errataref45_Spans.f k l v) (spanL v l) := by
  unfold errataref45_Spans.f
  exact refSpans_loop l hl v l 0 [] rfl (Nat.zero_le _) (Nat.le_refl _)

theorem refPick_loop {l : List S34} (h : right l = true) (hl : l.length < 4611686018427387904) (v : Int) (d : List S49) (hd60 : d.length ≤ 60) : ∀ (xs : List S49) (i : Nat) (out : List S49), d.drop i = xs → i ≤ d.length → out.length ≤ i →
    Ev (fun k => errataref45_Pick.l0 k l v d out (i : Int)) (out ++ xs.filter (fun x => atS l x.f0 == v)) := by
  intro xs
  induction xs with
  | nil =>
    intro i out hd hil ho
    have hn := drop_nil hd
    refine Ev.succ ?_
    simp only [errataref45_Pick.l0, not_lt_cast hn, if_false, List.filter_nil, List.append_nil]
    exact Ev.now _
  | cons x xs ih =>
    intro i out hd hil ho
    obtain ⟨hi, hx, hd⟩ := drop_cons hd
    have e2 := wrap_succ (i := i) (by omega)
    have hlt : out.length < 3518437208883 := by omega
    refine Ev.succ ?_
    simp only [errataref45_Pick.l0, lt_cast hi, zero_le_cast, rd49 hx, if_true, hlt, e2]
    refine Ev.bind (refAt_ev h hl) ?_
    by_cases h1 : atS l x.f0 = v
    · simp only [h1, if_true]
      refine ev_eq (ih (i + 1) (out ++ [⟨x.f0, x.f1, x.f2⟩]) hd (by omega) (by simp; omega)) ?_
      simp [h1]
    · simp only [h1, if_false]
      refine ev_eq (ih (i + 1) out hd (by omega) (by omega)) ?_
      simp [h1]
theorem refPick_ev {l : List S34} (h : right l = true) (hl : l.length < 4611686018427387904) (v : Int) (d : List S49) (hd60 : d.length ≤ 60) : Ev (fun k => errataref45_Pick.f k l v d) (d.filter (fun x => atS l x.f0 == v)) := by
  unfold errataref45_Pick.f
  exact refPick_loop h hl v d hd60 d 0 [] rfl (Nat.zero_le _) (Nat.le_refl _)

end Go.Proofs.Ytkaheioacolemaa.XT
