/- The law TimelinePicks: for every input, after enough rounds, true. Conditions: none beyond what a slice is. -/
import Derived.Test.YtkaheioacolemaaPl5
import Derived.Test.YtkaheioacolemaaXTx8
namespace Go.Proofs.Ytkaheioacolemaa.XT
open Go.RowKit Go.Proofs.YtkaheioacolemaaW.PrintWords Go.Proofs.YtkaheioacolemaaW.PrintLast Go.Proofs.YtkaheioacolemaaW.PrintMore Go.Proofs.Ytkaheioacolemaa.B
set_option linter.unusedVariables false
set_option linter.unusedSimpArgs false

def sumL (f : Int → Nat) : List Int → Nat
  | [] => 0
  | v :: vs => f v + sumL f vs
theorem sumL_add (f g : Int → Nat) (vs : List Int) : sumL (fun v => f v + g v) vs = sumL f vs + sumL g vs := by
  induction vs with
  | nil => rfl
  | cons v vs ih => simp only [sumL, ih]; omega
theorem sumL_zero (vs : List Int) : sumL (fun _ => 0) vs = 0 := by
  induction vs with
  | nil => rfl
  | cons v vs ih => simp only [sumL, ih]
theorem sumL_congr {f g : Int → Nat} (h : ∀ v, f v = g v) (vs : List Int) : sumL f vs = sumL g vs := by
  rw [show f = g from funext h]
theorem sumL_none {a : Int} {c : Nat} {vs : List Int} (h : a ∉ vs) : sumL (fun v => if a = v then c else 0) vs = 0 := by
  induction vs with
  | nil => rfl
  | cons v vs ih =>
    simp only [sumL]
    rw [if_neg (fun e => h (by simp [e])), ih (fun hm => h (by simp [hm]))]
theorem sumL_one {a : Int} {c : Nat} {vs : List Int} (hp : vs.Pairwise (· < ·)) (h : a ∈ vs) : sumL (fun v => if a = v then c else 0) vs = c := by
  induction vs with
  | nil => cases h
  | cons v vs ih =>
    obtain ⟨h1, h2⟩ := List.pairwise_cons.1 hp
    simp only [sumL]
    by_cases e : a = v
    · subst e
      rw [if_pos rfl, sumL_none (fun hm => by have := h1 a hm; omega)]
      omega
    · rw [if_neg e, ih h2 ((List.mem_cons.1 h).elim (fun h => absurd h e) id)]
      omega
/-- Each delta is picked once. -/
theorem picks_all (l : List S34) (vs : List Int) (hp : vs.Pairwise (· < ·)) (d : List S49) (h : ∀ x ∈ d, atS l x.f0 ∈ vs) : sumL (fun v => (d.filter (fun x => atS l x.f0 == v)).length) vs = d.length := by
  induction d with
  | nil => exact sumL_zero vs
  | cons x d ih =>
    have e : ∀ v, ((x :: d).filter (fun x => atS l x.f0 == v)).length = (if atS l x.f0 = v then 1 else 0) + (d.filter (fun x => atS l x.f0 == v)).length := by
      intro v
      by_cases hv : atS l x.f0 = v
      · rw [List.filter_cons_of_pos (by simpa using hv), if_pos hv, List.length_cons]
        omega
      · rw [List.filter_cons_of_neg (by simpa using hv), if_neg hv]
        omega
    rw [sumL_congr e, sumL_add, sumL_one hp (h x (by simp)), ih (fun y hy => h y (by simp [hy])), List.length_cons]
    omega
def holds (t : Int) (s : S34) : Bool := decide (s.f0 ≤ t) && decide (t < s.f1)
/-- A time lies in one span of all. -/
theorem spans_all (t : Int) (vs : List Int) (hp : vs.Pairwise (· < ·)) (p : S34) (xs : List S34) (hc : chain p xs = true) (hpm : p.f0 ≤ 1099511627776) (h : ∀ x ∈ p :: xs, x.f1 ∈ vs) :
    sumL (fun v => (spanL v (p :: xs)).countP (holds t)) vs = if p.f0 ≤ t ∧ t ≤ 1099511627776 then 1 else 0 := by
  induction xs generalizing p with
  | nil =>
    have e : ∀ v, (spanL v [p]).countP (holds t) = if p.f1 = v then (if p.f0 ≤ t ∧ t ≤ 1099511627776 then 1 else 0) else 0 := by
      intro v
      simp only [spanL]
      by_cases hv : p.f1 = v
      · rw [if_pos hv, if_pos hv]
        simp only [List.countP_cons, List.countP_nil, holds, Bool.and_eq_true, decide_eq_true_iff]
        by_cases h1 : p.f0 ≤ t ∧ t ≤ 1099511627776
        · rw [if_pos h1, if_pos ⟨h1.1, by omega⟩]
        · rw [if_neg h1, if_neg (by omega)]
      · rw [if_neg hv, if_neg hv]
        rfl
    rw [sumL_congr e]
    exact sumL_one hp (h p (by simp))
  | cons x xs ih =>
    obtain ⟨h1, hc2⟩ := chain_cons hc
    have e : ∀ v, (spanL v (p :: x :: xs)).countP (holds t) = (if p.f1 = v then (if p.f0 ≤ t ∧ t < x.f0 then 1 else 0) else 0) + (spanL v (x :: xs)).countP (holds t) := by
      intro v
      simp only [spanL, List.countP_append]
      congr 1
      by_cases hv : p.f1 = v
      · rw [if_pos hv, if_pos hv]
        simp only [List.countP_cons, List.countP_nil, holds, Bool.and_eq_true, decide_eq_true_iff]
        omega
      · rw [if_neg hv, if_neg hv]
        rfl
    rw [sumL_congr e, sumL_add, sumL_one hp (h p (by simp)), ih x hc2 h1.2.1 (fun y hy => h y (by simp [hy]))]
    split <;> split <;> split <;> omega
theorem span_at (t v : Int) (p : S34) (xs : List S34) (hc : chain p xs = true) : ∀ s ∈ spanL v (p :: xs), s.f0 ≤ t → t < s.f1 → atf p.f1 xs t = v := by
  induction xs generalizing p with
  | nil =>
    intro s hs h1 h2
    simp only [spanL] at hs
    split at hs
    · rename_i hv
      exact hv
    · cases hs
  | cons x xs ih =>
    obtain ⟨h1, hc2⟩ := chain_cons hc
    intro s hs h2 h3
    simp only [spanL] at hs
    rcases List.mem_append.1 hs with hs | hs
    · split at hs
      · rename_i hv
        have : s = ⟨p.f0, x.f0⟩ := by simpa using hs
        subst this
        simp only [atf]
        rw [if_neg (by simp only at h3; omega)]
        exact hv
      · cases hs
    · have hge : x.f0 ≤ s.f0 := by
        have key : ∀ (q : S34) (ys : List S34), chain q ys = true → ∀ s ∈ spanL v (q :: ys), q.f0 ≤ s.f0 := by
          intro q ys
          induction ys generalizing q with
          | nil =>
            intro _ s hs
            simp only [spanL] at hs
            split at hs
            · have : s = ⟨q.f0, 1099511627777⟩ := by simpa using hs
              subst this
              exact Int.le_refl _
            · cases hs
          | cons y ys ih =>
            intro hq s hs
            obtain ⟨h1, hc2⟩ := chain_cons hq
            simp only [spanL] at hs
            rcases List.mem_append.1 hs with hs | hs
            · split at hs
              · have : s = ⟨q.f0, y.f0⟩ := by simpa using hs
                subst this
                exact Int.le_refl _
              · cases hs
            · have := ih y hc2 s hs
              omega
        exact key x xs hc2 s hs
      simp only [atf]
      rw [if_pos (by omega)]
      exact ih x hc2 s hs h2 h3
theorem span_len (v : Int) : ∀ xs : List S34, (spanL v xs).length ≤ xs.length
  | [] => by simp [spanL]
  | [p] => by simp only [spanL]; split <;> simp
  | p :: x :: xs => by
    have ih := span_len v (x :: xs)
    simp only [spanL, List.length_append]
    have : (if p.f1 = v then [(⟨p.f0, x.f0⟩ : S34)] else []).length ≤ 1 := by split <;> simp
    simp only [List.length_cons] at ih ⊢
    omega
theorem at_mem {p : S34} {xs : List S34} {t : Int} : ∃ y ∈ p :: xs, y.f1 = atf p.f1 xs t := by
  rcases atf_mem (v := p.f1) (t := t) (xs := xs) with h | ⟨z, hz, h⟩
  · exact ⟨p, by simp, h.symm⟩
  · exact ⟨z, by simp [hz], h⟩

section
variable {p : S34} {ps : List S34} {d : List S49} {time : Int} (hr : right (p :: ps) = true) (hl60 : (p :: ps).length ≤ 60) (hd60 : d.length ≤ 60) (hrow : ∀ x ∈ d, x.f1.length ≤ 15) (V : List Int) (hV : V.length ≤ 60) (hVp : V.Pairwise (· < ·))
include hr hl60 in
theorem lawPicks_l2 (tot : Int) (j : Nat) (v : Int) (hj : V[j]? = some v) (sp : List S34) (hsp : sp.length ≤ 60) (hat : ∀ s ∈ sp, s.f0 ≤ time → time < s.f1 → atS (p :: ps) time = v) (R : Nat → Bool) (B : Nat) (hB : B ≤ 100000)
    (hnext : ∀ n : Nat, n ≤ B → Ev (fun k => erratalaw45_TimelinePicks.l0 k (p :: ps) d time true V tot (n : Int) (wrap64 ((j : Int) + 1))) (R n)) : ∀ (xs : List S34) (i : Nat) (n : Nat), sp.drop i = xs → n + xs.length ≤ B →
    Ev (fun k => erratalaw45_TimelinePicks.l2 k (p :: ps) d time true V tot (n : Int) (j : Int) sp (i : Int)) (R (n + xs.countP (holds time))) := by
  have hjl := (List.getElem?_eq_some_iff.1 hj).1
  intro xs
  induction xs with
  | nil =>
    intro i n hd hn
    have hnl := drop_nil hd
    refine Ev.succ ?_
    simp only [erratalaw45_TimelinePicks.l2, not_lt_cast hnl, if_false, List.countP_nil, Nat.add_zero]
    exact hnext n (by simp at hn; omega)
  | cons s xs ih =>
    intro i n hd hn
    obtain ⟨hi, hs, hd⟩ := drop_cons hd
    have e2 := wrap_succ (i := i) (by omega)
    simp only [List.length_cons] at hn
    refine Ev.succ ?_
    simp only [erratalaw45_TimelinePicks.l2, lt_cast hi, zero_le_cast, rd34 hs, if_true]
    by_cases h1 : s.f0 ≤ time
    · simp only [h1, if_true]
      refine Ev.succ ?_
      by_cases h2 : time < s.f1
      · have hv := hat s (List.mem_of_getElem? hs) h1 h2
        have hb1 : n + 1 + xs.length ≤ B := by omega
        have en := wrap_succ (i := n) (by omega)
        simp only [erratalaw45_TimelinePicks.j5, h2, decide_true, if_true, at_right hr (show (p :: ps).length < 4611686018427387904 by omega), Option.bind_some, zero_le_cast, lt_cast hjl, rdI hj, hv, en, e2]
        refine ev_eq (ih (i + 1) (n + 1) hd hb1) ?_
        rw [List.countP_cons_of_pos (by simp [holds, h1, h2])]
        congr 1
        clear en e2 hnext ih
        omega
      · simp only [erratalaw45_TimelinePicks.j5, h2, decide_false, Bool.false_eq_true, if_false, e2]
        refine ev_eq (ih (i + 1) n hd (by omega)) ?_
        rw [List.countP_cons_of_neg (by simp [holds, h2])]
    · simp only [h1, if_false]
      refine Ev.succ ?_
      simp only [erratalaw45_TimelinePicks.j5, Bool.false_eq_true, if_false, e2]
      refine ev_eq (ih (i + 1) n hd (by omega)) ?_
      rw [List.countP_cons_of_neg (by simp [holds, h1])]
include hr hl60 hd60 hrow in
theorem lawPicks_l1 (tot : Nat) (htot : tot ≤ 10000) (ins : Nat) (j : Nat) (v : Int) (hj : V[j]? = some v) (r : Bool)
    (hnext : Ev (fun k => erratalaw45_TimelinePicks.l2 k (p :: ps) d time true V ((tot + (d.filter (fun x => atS (p :: ps) x.f0 == v)).length : Nat) : Int) (ins : Int) (j : Int) (spanL v (p :: ps)) 0) r) : ∀ (xs : List S49) (i : Nat) (out : List S49), d.drop i = xs → i ≤ d.length → out.length ≤ i →
    out ++ xs.filter (fun x => atS (p :: ps) x.f0 == v) = d.filter (fun x => atS (p :: ps) x.f0 == v) →
    Ev (fun k => erratalaw45_TimelinePicks.l1 k (p :: ps) d time true V (tot : Int) (ins : Int) (j : Int) (d.filter (fun x => atS (p :: ps) x.f0 == v)) out (i : Int)) r := by
  have hjl := (List.getElem?_eq_some_iff.1 hj).1
  have hfl := List.length_filter_le (fun x : S49 => atS (p :: ps) x.f0 == v) d
  intro xs
  induction xs with
  | nil =>
    intro i out hd hil ho heq
    have hnl := drop_nil hd
    have heq : out = d.filter (fun x => atS (p :: ps) x.f0 == v) := by simpa using heq
    subst heq
    have ew : wrap64 ((tot : Int) + ((d.filter (fun x => atS (p :: ps) x.f0 == v)).length : Int)) = ((tot + (d.filter (fun x => atS (p :: ps) x.f0 == v)).length : Nat) : Int) := by
      rw [wrap_id (by omega) (by omega)]; omega
    refine Ev.succ ?_
    simp only [erratalaw45_TimelinePicks.l1, not_lt_cast hnl, if_false, ew]
    refine Ev.bind (sameDeltas_self _ (by omega) (fun x hx => hrow x (List.mem_filter.1 hx).1)) ?_
    simp only [if_true, zero_le_cast, lt_cast hjl, rdI hj]
    exact Ev.bind (spans_ev (p :: ps) (by omega) v) hnext
  | cons x xs ih =>
    intro i out hd hil ho heq
    obtain ⟨hi, hx, hd⟩ := drop_cons hd
    have e2 := wrap_succ (i := i) (by omega)
    have hlt : out.length < 3518437208883 := by omega
    refine Ev.succ ?_
    simp only [erratalaw45_TimelinePicks.l1, lt_cast hi, zero_le_cast, rd49 hx, if_true, at_right hr (show (p :: ps).length < 4611686018427387904 by omega), Option.bind_some, lt_cast hjl, rdI hj, hlt, e2]
    by_cases h1 : atS (p :: ps) x.f0 = v
    · simp only [h1, if_true]
      refine ih (i + 1) (out ++ [⟨x.f0, x.f1, x.f2⟩]) hd (by omega) (by simp; omega) ?_
      rw [← heq, List.filter_cons_of_pos (by simpa using h1)]
      simp
    · simp only [h1, if_false]
      refine ih (i + 1) out hd (by omega) (by omega) ?_
      rw [← heq, List.filter_cons_of_neg (by simpa using h1)]
include hr hl60 hd60 hrow hV hVp in
theorem lawPicks_l0 : ∀ (xs : List Int) (i : Nat) (tot ins : Nat), V.drop i = xs → i ≤ V.length → tot ≤ i * 60 → ins ≤ i * 60 →
    Ev (fun k => erratalaw45_TimelinePicks.l0 k (p :: ps) d time true V (tot : Int) (ins : Int) (i : Int))
      (decide (tot + sumL (fun v => (d.filter (fun x => atS (p :: ps) x.f0 == v)).length) xs = d.length) && ((decide (ins + sumL (fun v => (spanL v (p :: ps)).countP (holds time)) xs = 1)) == (decide (0 ≤ time) && decide (time ≤ 1099511627776)))) := by
  intro xs
  induction xs with
  | nil =>
    intro i tot ins hd hil ht hn
    have hnl := drop_nil hd
    refine Ev.succ ?_
    simp only [erratalaw45_TimelinePicks.l0, not_lt_cast hnl, if_false, if_true, sumL, Nat.add_zero]
    refine Ev.none_k ?_
    have hb : ((ins : Int) == 1) = decide (ins = 1) := by
      rw [Bool.eq_iff_iff]
      simp
      omega
    by_cases h1 : tot = d.length
    · rw [if_pos (by omega)]
      by_cases h2 : time ≥ 0
      · have h3 : (0 : Int) ≤ time := h2
        rw [if_pos h2, hb]
        simp [h1, h3]
        try rfl
      · have h3 : ¬ (0 : Int) ≤ time := by omega
        rw [if_neg h2, hb]
        simp [h1, h3]
        try rfl
    · rw [if_neg (by omega)]
      simp [h1]
  | cons v xs ih =>
    intro i tot ins hd hil ht hn
    obtain ⟨hi, hv, hd⟩ := drop_cons hd
    have e2 := wrap_succ (i := i) (by omega)
    obtain ⟨p0, p1, p2, hc⟩ := right_cons hr
    have hfl := List.length_filter_le (fun x : S49 => atS (p :: ps) x.f0 == v) d
    have hsl := span_len v (p :: ps)
    have hcl : (spanL v (p :: ps)).countP (holds time) ≤ (spanL v (p :: ps)).length := List.countP_le_length
    have hj2 : Ev (fun k => erratalaw45_TimelinePicks.j2 k (p :: ps) d time true V (tot : Int) (ins : Int) (i : Int) false)
        (decide (tot + sumL (fun v => (d.filter (fun x => atS (p :: ps) x.f0 == v)).length) (v :: xs) = d.length) && ((decide (ins + sumL (fun v => (spanL v (p :: ps)).countP (holds time)) (v :: xs) = 1)) == (decide (0 ≤ time) && decide (time ≤ 1099511627776)))) := by
      refine Ev.succ ?_
      simp only [erratalaw45_TimelinePicks.j2, Bool.false_eq_true, if_false, zero_le_cast, lt_cast hi, if_true, rdI hv]
      refine Ev.bind (pick_ev hr (by omega) v d hd60 hrow) ?_
      refine lawPicks_l1 hr hl60 hd60 hrow V tot (by omega) ins i v hv _ ?_ d 0 [] rfl (Nat.zero_le _) (Nat.le_refl _) rfl
      have hih : ∀ n : Nat, n ≤ (i + 1) * 60 → Ev (fun k => erratalaw45_TimelinePicks.l0 k (p :: ps) d time true V ((tot + (d.filter (fun x => atS (p :: ps) x.f0 == v)).length : Nat) : Int) (n : Int) (wrap64 ((i : Int) + 1)))
          (decide ((tot + (d.filter (fun x => atS (p :: ps) x.f0 == v)).length) + sumL (fun v => (d.filter (fun x => atS (p :: ps) x.f0 == v)).length) xs = d.length) && ((decide (n + sumL (fun v => (spanL v (p :: ps)).countP (holds time)) xs = 1)) == (decide (0 ≤ time) && decide (time ≤ 1099511627776)))) := by
        intro n hn2
        rw [e2]
        exact ih (i + 1) _ n hd (by omega) (by omega) hn2
      refine ev_eq (lawPicks_l2 (d := d) hr hl60 V ((tot + (d.filter (fun x => atS (p :: ps) x.f0 == v)).length : Nat) : Int) i v hv (spanL v (p :: ps)) (by omega) (fun s hs h1 h2 => span_at time v p ps hc s hs h1 h2)
        (fun n => decide ((tot + (d.filter (fun x => atS (p :: ps) x.f0 == v)).length) + sumL (fun v => (d.filter (fun x => atS (p :: ps) x.f0 == v)).length) xs = d.length) && ((decide (n + sumL (fun v => (spanL v (p :: ps)).countP (holds time)) xs = 1)) == (decide (0 ≤ time) && decide (time ≤ 1099511627776))))
        ((i + 1) * 60) (by omega) hih (spanL v (p :: ps)) 0 ins rfl (by omega)) ?_
      simp only [sumL, Nat.add_assoc]
      try rfl
    by_cases h0 : i = 0
    · subst h0
      have g : ¬ (((0 : Nat) : Int) > 0) := by omega
      refine Ev.succ ?_
      simp only [erratalaw45_TimelinePicks.l0, lt_cast hi, if_true, g, if_false]
      exact hj2
    · have g : (i : Int) > 0 := by omega
      have em : mx (wrap64 ((i : Int) - 1)) 0 = ((i - 1 : Nat) : Int) := by
        rw [wrap_id (by omega) (by omega)]
        unfold mx
        split <;> omega
      have hi1 : i - 1 < V.length := by omega
      have hv1 : V[i - 1]? = some V[i - 1] := List.getElem?_eq_getElem hi1
      have hlt : V[i - 1] < v := by
        have h1 := List.pairwise_iff_getElem.1 hVp (i - 1) i hi1 hi (by omega)
        have h2 : V[i] = v := by rw [List.getElem?_eq_getElem hi] at hv; exact Option.some.inj hv
        omega
      have hle : ¬ v ≤ V[i - 1] := by omega
      refine Ev.succ ?_
      simp only [erratalaw45_TimelinePicks.l0, lt_cast hi, if_true, g, zero_le_cast, em, lt_cast hi1, rdI hv, rdI hv1, hle, decide_false]
      exact hj2
end
theorem TimelinePicks_ev (l : List S34) (d : List S49) (time : Int) (hd : d.length ≤ maxLen) : Ev (fun k => erratalaw45_TimelinePicks.f k l d time) true := by
  unfold erratalaw45_TimelinePicks.f
  refine Ev.bind small_ev (Ev.bind (few_ev l d hd) ?_)
  have hj : Ev (fun k => erratalaw45_TimelinePicks.j0 k l d time true true) true := by
    refine Ev.succ ?_
    simp only [erratalaw45_TimelinePicks.j0, if_true]
    exact Ev.now _
  by_cases hf : (∀ x ∈ d, x.f1.length ≤ 15) ∧ l.length ≤ 60 ∧ d.length ≤ 60
  · obtain ⟨hrow, hl, hd60⟩ := hf
    have hfew : (d.all (fun x => decide (x.f1.length ≤ 15)) && decide (l.length ≤ 60) && decide (d.length ≤ 60)) = true := by
      simp [hl, hd60, List.all_eq_true]
      exact hrow
    simp only [hfew, if_true]
    refine Ev.bind (right_ev l (by omega)) ?_
    cases hr : right l with
    | false => exact hj
    | true =>
      refine Ev.succ ?_
      simp only [erratalaw45_TimelinePicks.j0, Bool.not_true, Bool.false_eq_true, if_false]
      refine Ev.bind (versionsV_ev l (by omega)) ?_
      have hvl := vers_len l
      cases l with
      | nil => cases hr
      | cons p ps =>
        refine ev_eq (lawPicks_l0 (time := time) hr hl hd60 hrow (vers (p :: ps)) (by omega) (vers_asc _) (vers (p :: ps)) 0 0 0 rfl (Nat.zero_le _) (by omega) (by omega)) ?_
        obtain ⟨p0, p1, p2, hc⟩ := right_cons hr
        rw [picks_all (p :: ps) _ (vers_asc _) d (fun x _ => by
          obtain ⟨y, hy, he⟩ := at_mem (p := p) (xs := ps) (t := x.f0)
          rw [vers_mem, List.mem_map]
          exact ⟨y, hy, he⟩), spans_all time _ (vers_asc _) p ps hc (by omega) (fun x hx => by rw [vers_mem, List.mem_map]; exact ⟨x, hx, rfl⟩), p0]
        by_cases h1 : 0 ≤ time
        · by_cases h2 : time ≤ 1099511627776
          · simp [h1, h2]
          · simp [h1, h2]
        · simp [h1]
  · have hfew : (d.all (fun x => decide (x.f1.length ≤ 15)) && decide (l.length ≤ 60) && decide (d.length ≤ 60)) = false := by
      cases h : (d.all (fun x => decide (x.f1.length ≤ 15)) && decide (l.length ≤ 60) && decide (d.length ≤ 60)) with
      | false => rfl
      | true =>
        refine absurd ?_ hf
        simp [List.all_eq_true] at h
        exact ⟨h.1.1, h.1.2, h.2⟩
    simp only [hfew, Bool.false_eq_true, if_false]
    exact hj
end Go.Proofs.Ytkaheioacolemaa.XT
