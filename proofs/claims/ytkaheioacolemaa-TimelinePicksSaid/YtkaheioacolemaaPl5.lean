/- The plain laws of Spans, Pick, Versions and of what is compared. Conditions: as each states. -/
import Derived.Test.YtkaheioacolemaaPl4
import Derived.Test.YtkaheioacolemaaXTx4
import Derived.Test.YtkaheioacolemaaXTx5
import Derived.Test.YtkaheioacolemaaXTx6
import Derived.Test.YtkaheioacolemaaXTx7
namespace Go.Proofs.Ytkaheioacolemaa.XT
open Go.RowKit Go.Proofs.YtkaheioacolemaaW.PrintWords Go.Proofs.YtkaheioacolemaaW.PrintLast Go.Proofs.YtkaheioacolemaaW.PrintMore Go.Proofs.Ytkaheioacolemaa.B
set_option linter.unusedVariables false
set_option linter.unusedSimpArgs false

theorem right_bounds {l : List S34} (h : right l = true) : ∀ x ∈ l, 0 ≤ x.f0 ∧ x.f0 ≤ 1099511627776 ∧ 1 ≤ x.f1 ∧ x.f1 ≤ 50 := by
  cases l with
  | nil => cases h
  | cons p xs =>
    obtain ⟨p0, p1, p2, hc⟩ := right_cons h
    intro x hx
    rcases List.mem_cons.1 hx with rfl | hx
    · omega
    · have := chain_all hc x hx
      omega
theorem opn_sub {c : Int} {p : S34} {xs : List S34} : ∀ y ∈ opn c p xs, y ∈ p :: xs := by
  induction xs generalizing p with
  | nil => intro y hy; simpa [opn] using hy
  | cons x xs ih =>
    intro y hy
    simp only [opn] at hy
    split at hy
    · exact List.mem_cons_of_mem _ (ih y hy)
    · exact hy
/-! ### Spans -/
def spanL (v : Int) : List S34 → List S34
  | [] => []
  | [p] => if p.f1 = v then [⟨p.f0, 1099511627777⟩] else []
  | p :: x :: xs => (if p.f1 = v then [⟨p.f0, x.f0⟩] else []) ++ spanL v (x :: xs)
theorem spans_loop (l : List S34) (hl : l.length < 8796093022207) (v : Int) : ∀ (xs : List S34) (i : Nat) (out : List S34), l.drop i = xs → i ≤ l.length → out.length ≤ i →
    Ev (fun k => timeline_Spans.l0 k l v out l (l.length : Int) (i : Int)) (out ++ spanL v xs) := by
  intro xs
  induction xs with
  | nil =>
    intro i out hd hil ho
    have hn := drop_nil hd
    refine Ev.succ ?_
    simp only [timeline_Spans.l0, not_lt_cast hn, if_false, spanL, List.append_nil]
    exact Ev.now _
  | cons x xs ih =>
    intro i out hd hil ho
    obtain ⟨hi, hx, hd⟩ := drop_cons hd
    have e2 := wrap_succ (i := i) (by omega)
    have hlt : out.length < 8796093022208 := by omega
    refine Ev.succ ?_
    cases xs with
    | nil =>
      have hn := drop_nil hd
      simp only [timeline_Spans.l0, lt_cast hi, zero_le_cast, rd34 hx, if_true, hlt, e2, not_lt_cast hn, if_false]
      by_cases h1 : x.f1 = v
      · simp only [h1, if_true]
        refine ev_eq (ih (i + 1) (out ++ [⟨x.f0, 1099511627777⟩]) hd (by omega) (by simp; omega)) ?_
        simp [spanL, h1]
      · simp only [h1, if_false]
        refine ev_eq (ih (i + 1) out hd (by omega) (by omega)) ?_
        simp [spanL, h1]
    | cons y ys =>
      obtain ⟨hi2, hy, _⟩ := drop_cons hd
      simp only [timeline_Spans.l0, lt_cast hi, zero_le_cast, rd34 hx, if_true, hlt, e2, lt_cast hi2, rd34 hy]
      by_cases h1 : x.f1 = v
      · simp only [h1, if_true]
        refine ev_eq (ih (i + 1) (out ++ [⟨x.f0, y.f0⟩]) hd (by omega) (by simp; omega)) ?_
        simp [spanL, h1]
      · simp only [h1, if_false]
        refine ev_eq (ih (i + 1) out hd (by omega) (by omega)) ?_
        simp [spanL, h1]
theorem spans_ev (l : List S34) (hl : l.length < 8796093022207) (v : Int) : Ev (fun k => timeline_Spans.f k l v) (spanL v l) := by
  unfold timeline_Spans.f
  exact spans_loop l hl v l 0 [] rfl (Nat.zero_le _) (Nat.le_refl _)
/-! ### Pick -/
theorem pick_loop {l : List S34} (h : right l = true) (hl : l.length < 4611686018427387904) (v : Int) (d : List S49) (hd60 : d.length ≤ 60) (hrow : ∀ x ∈ d, x.f1.length ≤ 15) : ∀ (xs : List S49) (i : Nat) (out : List S49), d.drop i = xs → i ≤ d.length → out.length ≤ i →
    Ev (fun k => timeline_Pick.l0 k l v out d (d.length : Int) (i : Int)) (out ++ xs.filter (fun x => atS l x.f0 == v)) := by
  intro xs
  induction xs with
  | nil =>
    intro i out hd hil ho
    have hn := drop_nil hd
    refine Ev.succ ?_
    simp only [timeline_Pick.l0, not_lt_cast hn, if_false, List.filter_nil, List.append_nil]
    exact Ev.now _
  | cons x xs ih =>
    intro i out hd hil ho
    obtain ⟨hi, hx, hd⟩ := drop_cons hd
    have e2 := wrap_succ (i := i) (by omega)
    have hlt : out.length < 3518437208883 := by omega
    have hxr := hrow x (List.mem_of_getElem? hx)
    have hcl : api_Value.f x.f1 = some x.f1 := by
      unfold api_Value.f
      rw [if_pos (by omega)]
    refine Ev.succ ?_
    simp only [timeline_Pick.l0, lt_cast hi, zero_le_cast, rd49 hx, if_true, hlt, e2, at_right h hl, Option.bind_some, hcl]
    by_cases h1 : atS l x.f0 = v
    · simp only [h1, if_true]
      refine ev_eq (ih (i + 1) (out ++ [⟨x.f0, x.f1, x.f2⟩]) hd (by omega) (by simp; omega)) ?_
      simp [h1]
    · simp only [h1, if_false]
      refine ev_eq (ih (i + 1) out hd (by omega) (by omega)) ?_
      simp [h1]
theorem pick_ev {l : List S34} (h : right l = true) (hl : l.length < 4611686018427387904) (v : Int) (d : List S49) (hd60 : d.length ≤ 60) (hrow : ∀ x ∈ d, x.f1.length ≤ 15) : Ev (fun k => timeline_Pick.f k l v d) (d.filter (fun x => atS l x.f0 == v)) := by
  unfold timeline_Pick.f
  exact pick_loop h hl v d hd60 hrow d 0 [] rfl (Nat.zero_le _) (Nat.le_refl _)
/-! ### a list of deltas is equal to itself -/
theorem less_self : ∀ a : List UInt8, Op.bytesLess a a = false
  | [] => rfl
  | x :: a => by
    have : ¬ x < x := fun h => by have h2 : x.toNat < x.toNat := h; omega
    simp [Op.bytesLess, less_self a, this]
theorem rd55 {l : List S55} {i : Nat} {x : S55} (h : l[i]? = some x) : rd_T55 l (i : Int) = x := getD_at h z55
theorem cmp_self (x : S55) : errataref03_Compare.f x.f0 x.f1 x.f2 x.f0 x.f1 x.f2 = some 0 := by
  unfold errataref03_Compare.f
  simp [less_self]
theorem cmpRows_self (r : List S55) (hl : r.length < 4611686018427387904) : ∀ (xs : List S55) (i : Nat), r.drop i = xs → Ev (fun k => errataref03_CompareRows.l0 k r r (i : Int)) 0 := by
  intro xs
  induction xs with
  | nil =>
    intro i hd
    have hn := drop_nil hd
    refine Ev.succ ?_
    simp only [errataref03_CompareRows.l0, not_lt_cast hn, if_false]
    refine Ev.succ ?_
    have h1 : ¬ ((r.length : Int) < (r.length : Int)) := by omega
    have h2 : ¬ ((r.length : Int) > (r.length : Int)) := by omega
    simp only [errataref03_CompareRows.j1, Bool.false_eq_true, if_false, h1, h2]
    exact Ev.now _
  | cons x xs ih =>
    intro i hd
    obtain ⟨hi, hx, hd⟩ := drop_cons hd
    have e2 := wrap_succ (i := i) (by omega)
    have hid : decide ((i : Int) < (r.length : Int)) = true := by simp; omega
    refine Ev.succ ?_
    simp only [errataref03_CompareRows.l0, lt_cast hi, if_true]
    refine Ev.succ ?_
    simp only [errataref03_CompareRows.j1, decide_true, if_true, zero_le_cast, lt_cast hi, rd55 hx, cmp_self, Option.bind_some, e2]
    exact ih (i + 1) hd
theorem sameRows_self (r : List S55) (hl : r.length < 4611686018427387904) : Ev (fun k => errataref03_Same.f k r r) true := by
  unfold errataref03_Same.f
  refine Ev.bind (a := 0) ?_ (Ev.now _)
  unfold errataref03_CompareRows.f
  exact cmpRows_self r hl r 0 rfl
theorem sameDeltas_loop (d : List S49) (hl : d.length < 4611686018427387904) (hrow : ∀ x ∈ d, x.f1.length ≤ 15) : ∀ (xs : List S49) (i : Nat), d.drop i = xs → Ev (fun k => errataref45_SameDeltas.l0 k d d (i : Int)) true := by
  intro xs
  induction xs with
  | nil =>
    intro i hd
    have hn := drop_nil hd
    refine Ev.succ ?_
    simp only [errataref45_SameDeltas.l0, not_lt_cast hn, if_false]
    exact Ev.now _
  | cons x xs ih =>
    intro i hd
    obtain ⟨hi, hx, hd⟩ := drop_cons hd
    have e2 := wrap_succ (i := i) (by omega)
    have hxr := hrow x (List.mem_of_getElem? hx)
    refine Ev.succ ?_
    simp only [errataref45_SameDeltas.l0, lt_cast hi, zero_le_cast, rd49 hx, if_true, e2]
    refine Ev.bind (sameRows_self x.f1 (by omega)) ?_
    simp only [if_true]
    exact ih (i + 1) hd
theorem sameDeltas_self (d : List S49) (hl : d.length < 4611686018427387904) (hrow : ∀ x ∈ d, x.f1.length ≤ 15) : Ev (fun k => errataref45_SameDeltas.f k d d) true := by
  unfold errataref45_SameDeltas.f
  simp only [if_true]
  exact sameDeltas_loop d hl hrow d 0 rfl
theorem few_loop (l : List S34) (d : List S49) (hdl : d.length ≤ maxLen) : ∀ (xs : List S49) (i : Nat), d.drop i = xs → Ev (fun k => erratalaw45_few.l0 k l d (i : Int)) (xs.all (fun x => decide (x.f1.length ≤ 15)) && decide (l.length ≤ 60) && decide (d.length ≤ 60)) := by
  simp only [maxLen] at hdl
  intro xs
  induction xs with
  | nil =>
    intro i hd
    have hn := drop_nil hd
    refine Ev.succ ?_
    simp only [erratalaw45_few.l0, not_lt_cast hn, if_false]
    refine Ev.none_k ?_
    by_cases h1 : l.length ≤ 60
    · rw [if_pos (by omega)]
      simp [h1]
      omega
    · rw [if_neg (by omega)]
      simp [h1]
  | cons x xs ih =>
    intro i hd
    obtain ⟨hi, hx, hd⟩ := drop_cons hd
    have e2 := wrap_succ (i := i) (by omega)
    refine Ev.succ ?_
    simp only [erratalaw45_few.l0, lt_cast hi, zero_le_cast, rd49 hx, if_true, e2]
    by_cases h1 : (x.f1.length : Int) > 15
    · simp only [h1, if_true]
      refine Ev.none_k ?_
      have : ¬ x.f1.length ≤ 15 := by omega
      simp [this]
    · simp only [h1, if_false]
      refine ev_eq (ih (i + 1) hd) ?_
      have : x.f1.length ≤ 15 := by omega
      simp [this]
theorem few_ev (l : List S34) (d : List S49) (hdl : d.length ≤ maxLen) : Ev (fun k => erratalaw45_few.f k l d) (d.all (fun x => decide (x.f1.length ≤ 15)) && decide (l.length ≤ 60) && decide (d.length ≤ 60)) := by
  unfold erratalaw45_few.f
  exact few_loop l d hdl d 0 rfl
theorem versionsV_ev (l : List S34) (hl : l.length < 17592186044416) : Ev (fun k => timeline_Versions.f k l) (vers l) := by
  unfold timeline_Versions.f
  exact Ev.bind (versions_ev l hl) (Ev.now _)
end Go.Proofs.Ytkaheioacolemaa.XT
