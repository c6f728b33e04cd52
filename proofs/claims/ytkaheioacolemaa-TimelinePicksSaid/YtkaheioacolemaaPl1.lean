/- The plain laws of the timeline's functions: what each of them answers, over lists. Conditions: as each states. -/
import Derived.Test.YtkaheioacolemaaBase
import Derived.Test.YtkaheioacolemaaXTx2
import Derived.Test.YtkaheioacolemaaXTx3
namespace Go.Proofs.Ytkaheioacolemaa.XT
open Go.RowKit Go.Proofs.YtkaheioacolemaaW.PrintWords Go.Proofs.YtkaheioacolemaaW.PrintLast Go.Proofs.YtkaheioacolemaaW.PrintMore Go.Proofs.Ytkaheioacolemaa.B
set_option linter.unusedVariables false
set_option linter.unusedSimpArgs false

theorem rd34 {l : List S34} {i : Nat} {x : S34} (h : l[i]? = some x) : rd_T34 l (i : Int) = x := getD_at h z34
theorem rd49 {l : List S49} {i : Nat} {x : S49} (h : l[i]? = some x) : rd_T49 l (i : Int) = x := getD_at h z49
theorem rd30 {l : List S30} {i : Nat} {x : S30} (h : l[i]? = some x) : rd_T30 l (i : Int) = x := getD_at h z30
theorem rdI {l : List Int} {i : Nat} {x : Int} (h : l[i]? = some x) : rd l (i : Int) = x := getD_at h 0

/-! ### right timelines -/
def okS (p x : S34) : Bool := decide (p.f0 < x.f0) && decide (x.f0 ≤ 1099511627776) && decide (1 ≤ x.f1) && decide (x.f1 ≤ 50) && !(x.f1 == p.f1)
def chain : S34 → List S34 → Bool
  | _, [] => true
  | p, x :: xs => okS p x && chain x xs
def right : List S34 → Bool
  | [] => false
  | x :: xs => (x.f0 == 0) && decide (1 ≤ x.f1) && decide (x.f1 ≤ 50) && chain x xs

theorem right_loop (l : List S34) (hl : l.length < 4611686018427387904) : ∀ (xs : List S34) (p : S34) (i : Nat), l.drop i = p :: xs →
    Ev (fun k => timeline_Right.l0 k l l (l.length : Int) ((i + 1 : Nat) : Int)) (chain p xs) := by
  intro xs
  induction xs with
  | nil =>
    intro p i hd
    obtain ⟨hi, hp, hd⟩ := drop_cons hd
    have hn := drop_nil hd
    refine Ev.succ ?_
    simp only [timeline_Right.l0, not_lt_cast hn, if_false]
    exact Ev.now _
  | cons x xs ih =>
    intro p i hd
    obtain ⟨hi, hp, hd⟩ := drop_cons hd
    obtain ⟨hi2, hx, hd2⟩ := drop_cons hd
    have ih := ih x (i + 1) hd
    have e1 : wrap64 (((i + 1 : Nat) : Int) - 1) = (i : Int) := by rw [wrap_id (by omega) (by omega)]; omega
    have e2 := wrap_succ (i := i + 1) (by omega)
    refine Ev.succ ?_
    simp only [timeline_Right.l0, lt_cast hi2, zero_le_cast, rd34 hx, if_true]
    by_cases h1 : x.f0 > 1099511627776
    · simp only [h1, if_true]
      refine Ev.succ ?_
      simp only [timeline_Right.j2, if_true]
      refine Ev.none_k ?_
      simp only [chain, okS]
      rw [show decide (x.f0 ≤ 1099511627776) = false from decide_eq_false (by omega)]
      simp
    · by_cases h2 : x.f1 < 1
      · simp only [h1, h2, if_true, if_false]
        refine Ev.succ ?_
        simp only [timeline_Right.j2, if_true]
        refine Ev.none_k ?_
        simp only [chain, okS]
        rw [show decide (1 ≤ x.f1) = false from decide_eq_false (by omega)]
        simp
      · simp only [h1, h2, if_false]
        refine Ev.succ ?_
        by_cases h3 : x.f1 > 50
        · simp only [timeline_Right.j2, h3, decide_true, if_true]
          refine Ev.none_k ?_
          simp only [chain, okS]
          rw [show decide (x.f1 ≤ 50) = false from decide_eq_false (by omega)]
          simp
        · have g : ((i + 1 : Nat) : Int) > 0 := by omega
          simp only [timeline_Right.j2, h3, decide_false, Bool.false_eq_true, if_false, g, if_true, e1, lt_cast hi, zero_le_cast, rd34 hp, e2]
          by_cases h4 : x.f0 ≤ p.f0
          · simp only [h4, if_true]
            refine Ev.none_k ?_
            simp only [chain, okS]
            rw [show decide (p.f0 < x.f0) = false from decide_eq_false (by omega)]
            simp
          · by_cases h5 : x.f1 = p.f1
            · simp only [h4, h5, if_true, if_false]
              refine Ev.none_k ?_
              simp [chain, okS, h5]
            · simp only [h4, h5, if_false]
              refine ev_eq ih ?_
              simp only [chain, okS]
              rw [decide_eq_true (show p.f0 < x.f0 by omega), decide_eq_true (show x.f0 ≤ 1099511627776 by omega), decide_eq_true (show 1 ≤ x.f1 by omega), decide_eq_true (show x.f1 ≤ 50 by omega)]
              simp [h5]

theorem right_ev (l : List S34) (hl : l.length < 4611686018427387904) : Ev (fun k => timeline_Right.f k l) (right l) := by
  cases l with
  | nil =>
    unfold timeline_Right.f
    simp only [List.length_nil, Int.natCast_zero, Int.ofNat_zero, if_true]
    refine Ev.succ ?_
    simp only [timeline_Right.j0, if_true]
    exact Ev.now _
  | cons x xs =>
    unfold timeline_Right.f
    have hx : (x :: xs)[0]? = some x := rfl
    have e0 : rd_T34 (x :: xs) 0 = x := rd34 hx
    have n1 : ¬ (((x :: xs).length : Int) = 0) := by simp only [List.length_cons]; omega
    have n2 : 0 < ((x :: xs).length : Int) := by simp only [List.length_cons]; omega
    simp only [n1, n2, if_true, if_false, e0]
    refine Ev.succ ?_
    by_cases h0 : x.f0 = 0
    · have hl := right_loop (x :: xs) hl xs x 0 rfl
      simp only [timeline_Right.j0, h0, bne_self_eq_false, Bool.false_eq_true, if_false]
      refine Ev.succ ?_
      have n3 : (0 : Int) ≤ 0 := by omega
      have n4 : ¬ ((0 : Int) > 1099511627776) := by omega
      have e2 : wrap64 (0 + 1) = ((0 + 1 : Nat) : Int) := by rw [wrap_id (by omega) (by omega)]; rfl
      simp only [timeline_Right.l0, n2, n3, if_true, e0, h0, n4, if_false]
      by_cases h2 : x.f1 < 1
      · simp only [h2, if_true]
        refine Ev.succ ?_
        simp only [timeline_Right.j2, if_true]
        refine Ev.none_k ?_
        simp only [right]
        rw [show decide (1 ≤ x.f1) = false from decide_eq_false (by omega)]
        simp
      · simp only [h2, if_false]
        refine Ev.succ ?_
        by_cases h3 : x.f1 > 50
        · simp only [timeline_Right.j2, h3, decide_true, if_true]
          refine Ev.none_k ?_
          simp only [right]
          rw [show decide (x.f1 ≤ 50) = false from decide_eq_false (by omega)]
          simp
        · have n5 : ¬ ((0 : Int) > 0) := by omega
          simp only [timeline_Right.j2, h3, decide_false, Bool.false_eq_true, if_false, n5, e2]
          refine ev_eq hl ?_
          simp only [right]
          rw [decide_eq_true (show 1 ≤ x.f1 by omega), decide_eq_true (show x.f1 ≤ 50 by omega)]
          simp [h0]
    · have hb : (x.f0 != 0) = true := by simpa using h0
      simp only [timeline_Right.j0, hb, if_true]
      refine Ev.none_k ?_
      simp [right, h0]

/-! ### the version of a time -/
def atf (v : Int) : List S34 → Int → Int
  | [], _ => v
  | x :: xs, t => if x.f0 ≤ t then atf x.f1 xs t else v
def atS : List S34 → Int → Int
  | [], _ => 0
  | p :: xs, t => atf p.f1 xs t

theorem okS_spec {p x : S34} (h : okS p x = true) : p.f0 < x.f0 ∧ x.f0 ≤ 1099511627776 ∧ 1 ≤ x.f1 ∧ x.f1 ≤ 50 ∧ x.f1 ≠ p.f1 := by
  simp only [okS, Bool.and_eq_true, decide_eq_true_iff, Bool.not_eq_true', beq_eq_false_iff_ne] at h
  exact ⟨h.1.1.1.1, h.1.1.1.2, h.1.1.2, h.1.2, h.2⟩
theorem chain_cons {p x : S34} {xs : List S34} (h : chain p (x :: xs) = true) : (p.f0 < x.f0 ∧ x.f0 ≤ 1099511627776 ∧ 1 ≤ x.f1 ∧ x.f1 ≤ 50 ∧ x.f1 ≠ p.f1) ∧ chain x xs = true := by
  simp only [chain, Bool.and_eq_true] at h
  exact ⟨okS_spec h.1, h.2⟩
theorem chain_mk {p x : S34} {xs : List S34} (h : p.f0 < x.f0 ∧ x.f0 ≤ 1099511627776 ∧ 1 ≤ x.f1 ∧ x.f1 ≤ 50 ∧ x.f1 ≠ p.f1) (hc : chain x xs = true) : chain p (x :: xs) = true := by
  simp [chain, okS, h, hc]
theorem right_cons {x : S34} {xs : List S34} (h : right (x :: xs) = true) : x.f0 = 0 ∧ 1 ≤ x.f1 ∧ x.f1 ≤ 50 ∧ chain x xs = true := by
  simp only [right, Bool.and_eq_true, decide_eq_true_iff, beq_iff_eq] at h
  exact ⟨h.1.1.1, h.1.1.2, h.1.2, h.2⟩
theorem right_mk {x : S34} {xs : List S34} (h : x.f0 = 0 ∧ 1 ≤ x.f1 ∧ x.f1 ≤ 50 ∧ chain x xs = true) : right (x :: xs) = true := by
  simp [right, h]
/-- All that follow begin later, and have versions. -/
theorem chain_all {p : S34} {xs : List S34} (h : chain p xs = true) : ∀ x ∈ xs, p.f0 < x.f0 ∧ x.f0 ≤ 1099511627776 ∧ 1 ≤ x.f1 ∧ x.f1 ≤ 50 := by
  induction xs generalizing p with
  | nil => intro x hx; cases hx
  | cons y ys ih =>
    obtain ⟨h1, h2⟩ := chain_cons h
    intro x hx
    rcases List.mem_cons.1 hx with rfl | hx
    · exact ⟨h1.1, h1.2.1, h1.2.2.1, h1.2.2.2.1⟩
    · have := ih h2 x hx
      exact ⟨by omega, this.2⟩
theorem chain_sorted {p : S34} {xs : List S34} (h : chain p xs = true) : List.Pairwise (fun a b : S34 => a.f0 ≤ b.f0) (p :: xs) := by
  induction xs generalizing p with
  | nil => simp
  | cons y ys ih =>
    obtain ⟨h1, h2⟩ := chain_cons h
    refine List.pairwise_cons.2 ⟨fun x hx => ?_, ih h2⟩
    have := chain_all h x hx
    omega
theorem atf_before {v : Int} {p : S34} {xs : List S34} {t : Int} (h : chain p xs = true) (ht : t ≤ p.f0) : atf v xs t = v := by
  cases xs with
  | nil => rfl
  | cons x xs =>
    obtain ⟨h1, _⟩ := chain_cons h
    simp only [atf]
    rw [if_neg (by omega)]
theorem count_none {p : S34} {xs : List S34} {t : Int} (h : chain p xs = true) (ht : t ≤ p.f0) : xs.countP (fun s => decide (s.f0 ≤ t)) = 0 := by
  rw [List.countP_eq_zero]
  intro x hx
  have := chain_all h x hx
  simp
  omega
/-- The element behind as many as begin at t or before. -/
theorem at_count {p : S34} {xs : List S34} {t : Int} (h : chain p xs = true) : ∃ y, (p :: xs)[xs.countP (fun s => decide (s.f0 ≤ t))]? = some y ∧ y.f1 = atf p.f1 xs t := by
  induction xs generalizing p with
  | nil => exact ⟨p, rfl, rfl⟩
  | cons x xs ih =>
    obtain ⟨h1, h2⟩ := chain_cons h
    by_cases hx : x.f0 ≤ t
    · obtain ⟨y, hy, he⟩ := ih h2
      refine ⟨y, ?_, ?_⟩
      · rw [List.countP_cons_of_pos (by simpa using hx), List.getElem?_cons_succ]
        exact hy
      · simp only [atf, hx, if_true]
        exact he
    · refine ⟨p, ?_, ?_⟩
      · rw [List.countP_cons_of_neg (by simpa using hx), count_none h2 (by omega)]
        rfl
      · simp only [atf, hx, if_false]

theorem count_le (l : List S34) (t : Int) : l.countP (fun s => decide (s.f0 ≤ t)) ≤ l.length := List.countP_le_length
theorem behind_eq {p : S34} {xs : List S34} {t : Int} (h : chain p xs = true) (hl : (p :: xs).length < 4611686018427387904) : timeline_behind.f (p :: xs) t = some (((p :: xs).countP (fun s => decide (s.f0 ≤ t)) : Nat) : Int) := by
  unfold timeline_behind.f
  rw [if_pos ⟨chain_sorted h, hl⟩]
theorem at_eq {p : S34} {xs : List S34} {t : Int} (h : chain p xs = true) (hl : (p :: xs).length < 4611686018427387904) : timeline_At.f (p :: xs) t = some (atf p.f1 xs t) := by
  obtain ⟨y, hy, he⟩ := at_count (t := t) h
  have hle := count_le xs t
  have hlen : (p :: xs).length = xs.length + 1 := rfl
  unfold timeline_At.f
  rw [behind_eq h hl, Option.bind_some]
  by_cases hp : p.f0 ≤ t
  · rw [List.countP_cons_of_pos (by simpa using hp)]
    have e : wrap64 (mx ((xs.countP (fun s => decide (s.f0 ≤ t)) + 1 : Nat) : Int) 1 - 1) = ((xs.countP (fun s => decide (s.f0 ≤ t)) : Nat) : Int) := by
      unfold mx wrap64
      split <;> omega
    rw [e, if_pos (by omega), if_pos (by omega), rd34 hy, he]
  · have hz := count_none (t := t) h (by omega)
    rw [List.countP_cons_of_neg (by simpa using hp), hz]
    rw [hz] at hy
    have e : wrap64 (mx ((0 : Nat) : Int) 1 - 1) = ((0 : Nat) : Int) := by
      unfold mx wrap64
      split <;> omega
    rw [e, if_pos (by omega), if_pos (by omega), rd34 hy, he]
theorem at_right {l : List S34} {t : Int} (h : right l = true) (hl : l.length < 4611686018427387904) : timeline_At.f l t = some (atS l t) := by
  cases l with
  | nil => cases h
  | cons p xs => exact at_eq (right_cons h).2.2.2 hl

/-! ### equal lists -/
theorem s34_ext {a b : S34} (h0 : a.f0 = b.f0) (h1 : a.f1 = b.f1) : a = b := by
  cases a; cases b; simp_all
def eqL : List S34 → List S34 → Bool
  | [], [] => true
  | x :: xs, y :: ys => (x.f0 == y.f0) && (x.f1 == y.f1) && eqL xs ys
  | _, _ => false
theorem eqL_iff (a b : List S34) : eqL a b = true ↔ a = b := by
  induction a generalizing b with
  | nil => cases b <;> simp [eqL]
  | cons x xs ih =>
    cases b with
    | nil => simp [eqL]
    | cons y ys =>
      simp only [eqL, Bool.and_eq_true, beq_iff_eq, ih, List.cons.injEq]
      constructor
      · rintro ⟨⟨h0, h1⟩, h2⟩
        exact ⟨s34_ext h0 h1, h2⟩
      · rintro ⟨rfl, rfl⟩
        exact ⟨⟨rfl, rfl⟩, rfl⟩
theorem eqL_refl (a : List S34) : eqL a a = true := (eqL_iff a a).2 rfl
theorem eqL_len {a b : List S34} (h : a.length ≠ b.length) : eqL a b = false := by
  cases h2 : eqL a b with
  | false => rfl
  | true => exact absurd (congrArg List.length ((eqL_iff a b).1 h2)) h
theorem same_loop (a b : List S34) (hl : a.length < 4611686018427387904) (he : a.length = b.length) : ∀ (xs ys : List S34) (i : Nat), a.drop i = xs → b.drop i = ys →
    Ev (fun k => api_Seg_30.l0 k a b (a.length : Int) (i : Int)) (eqL xs ys) := by
  intro xs
  induction xs with
  | nil =>
    intro ys i hd hd'
    have hn := drop_nil hd
    obtain rfl : ys = [] := by rw [← hd']; exact List.drop_of_length_le (by omega)
    refine Ev.succ ?_
    simp only [api_Seg_30.l0, not_lt_cast hn, if_false]
    exact Ev.now _
  | cons x xs ih =>
    intro ys i hd hd'
    obtain ⟨hi, hx, hd⟩ := drop_cons hd
    cases ys with
    | nil => have := drop_nil hd'; omega
    | cons y ys =>
      obtain ⟨hi', hy, hd'⟩ := drop_cons hd'
      have e2 := wrap_succ (i := i) (by omega)
      refine Ev.succ ?_
      simp only [api_Seg_30.l0, lt_cast hi, lt_cast hi', zero_le_cast, rd34 hx, rd34 hy, if_true, e2]
      by_cases h0 : x.f0 = y.f0
      · by_cases h1 : x.f1 = y.f1
        · have hb : (!(x.f0 == y.f0) || !(x.f1 == y.f1)) = false := by simp [h0, h1]
          simp only [hb, Bool.false_eq_true, if_false]
          refine ev_eq (ih ys (i + 1) hd hd') ?_
          simp [eqL, h0, h1]
        · have hb : (!(x.f0 == y.f0) || !(x.f1 == y.f1)) = true := by simp [h1]
          simp only [hb, if_true]
          refine Ev.none_k ?_
          simp [eqL, h1]
      · have hb : (!(x.f0 == y.f0) || !(x.f1 == y.f1)) = true := by simp [h0]
        simp only [hb, if_true]
        refine Ev.none_k ?_
        simp [eqL, h0]
theorem same_ev (a b : List S34) (hl : a.length < 4611686018427387904) : Ev (fun k => timeline_Same.f k a b) (eqL a b) := by
  unfold timeline_Same.f
  refine Ev.bind (a := eqL a b) ?_ (Ev.now _)
  unfold api_Seg_30.f
  by_cases he : a.length = b.length
  · have h : ((a.length : Int) = (b.length : Int)) = True := eq_true (by omega)
    simp only [h, if_true]
    exact same_loop a b hl he a b 0 rfl rfl
  · have h : ((a.length : Int) = (b.length : Int)) = False := eq_false (by omega)
    simp only [h, if_false]
    exact Ev.none_k (by rw [eqL_len he])
end Go.Proofs.Ytkaheioacolemaa.XT
