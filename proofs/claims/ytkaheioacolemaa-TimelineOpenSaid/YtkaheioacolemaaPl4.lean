/- The plain laws of what is open, and the law TimelineOpen: for every input, after enough rounds, true. Conditions: as each states. -/
import Derived.Test.YtkaheioacolemaaPl2
import Derived.Test.YtkaheioacolemaaXTx7
namespace Go.Proofs.Ytkaheioacolemaa.XT
open Go.RowKit Go.Proofs.YtkaheioacolemaaW.PrintWords Go.Proofs.YtkaheioacolemaaW.PrintLast Go.Proofs.YtkaheioacolemaaW.PrintMore Go.Proofs.Ytkaheioacolemaa.B
set_option linter.unusedVariables false
set_option linter.unusedSimpArgs false

/-- The segments from the one on that contains the time c + 1. -/
def opn (c : Int) : S34 → List S34 → List S34
  | p, [] => [p]
  | p, x :: xs => if x.f0 ≤ c + 1 then opn c x xs else p :: x :: xs
theorem drop_count {p : S34} {xs : List S34} {c : Int} (h : chain p xs = true) : (p :: xs).drop (xs.countP (fun s => decide (s.f0 ≤ c + 1))) = opn c p xs := by
  induction xs generalizing p with
  | nil => rfl
  | cons x xs ih =>
    obtain ⟨h1, hc⟩ := chain_cons h
    by_cases hx : x.f0 ≤ c + 1
    · rw [List.countP_cons_of_pos (by simpa using hx)]
      simp only [opn, hx, if_true, List.drop_succ_cons]
      exact ih hc
    · rw [List.countP_cons_of_neg (by simpa using hx), count_none hc (by omega)]
      simp [opn, hx]
theorem drop_open {p : S34} {xs : List S34} {c : Int} (h : chain p xs = true) : (p :: xs).drop (openFrom (p :: xs) c) = opn (mn c 1099511627776) p xs := by
  have e : openFrom (p :: xs) c = xs.countP (fun s => decide (s.f0 ≤ mn c 1099511627776 + 1)) := by
    unfold openFrom
    by_cases hp : p.f0 ≤ mn c 1099511627776 + 1
    · rw [List.countP_cons_of_pos (by simpa using hp)]
      omega
    · rw [List.countP_cons_of_neg (by simpa using hp), count_none h (by omega)]
      rfl
  rw [e]
  exact drop_count h
theorem opn_mem {p : S34} {xs : List S34} {c v : Int} (h : chain p xs = true) (hp : p.f0 ≤ c + 1) :
    (∃ y ∈ opn c p xs, y.f1 = v) ↔ (((p :: xs).getLast (by simp)).f1 = v ∨ atf p.f1 xs (c + 1) = v ∨ ∃ y ∈ p :: xs, y.f1 = v ∧ y.f0 > c) := by
  induction xs generalizing p with
  | nil => simp [opn, atf]; omega
  | cons x xs ih =>
    obtain ⟨h1, hc⟩ := chain_cons h
    by_cases hx : x.f0 ≤ c + 1
    · simp only [opn, hx, if_true, atf]
      rw [ih hc hx]
      have gl : (p :: x :: xs).getLast (by simp) = (x :: xs).getLast (by simp) := List.getLast_cons (by simp)
      rw [gl]
      constructor
      · rintro (h2 | h2 | ⟨y, hy, h2⟩)
        · exact .inl h2
        · exact .inr (.inl h2)
        · exact .inr (.inr ⟨y, List.mem_cons_of_mem _ hy, h2⟩)
      · rintro (h2 | h2 | ⟨y, hy, h2, h3⟩)
        · exact .inl h2
        · exact .inr (.inl h2)
        · rcases List.mem_cons.1 hy with rfl | hy
          · omega
          · exact .inr (.inr ⟨y, hy, h2, h3⟩)
    · simp only [opn, hx, if_false, atf]
      constructor
      · rintro ⟨y, hy, h2⟩
        rcases List.mem_cons.1 hy with rfl | hy
        · exact .inr (.inl h2)
        · refine .inr (.inr ⟨y, List.mem_cons_of_mem _ hy, h2, ?_⟩)
          rcases List.mem_cons.1 hy with rfl | hy
          · omega
          · have := chain_all hc y hy
            omega
      · rintro (h2 | h2 | ⟨y, hy, h2, h3⟩)
        · exact ⟨_, List.getLast_mem (by simp), h2⟩
        · exact ⟨p, by simp, h2⟩
        · exact ⟨y, hy, h2⟩
theorem open_mem {p : S34} {xs : List S34} {c v : Int} (h : right (p :: xs) = true) (h0 : -1 ≤ c) (h1 : c < 1099511627776) :
    v ∈ vers ((p :: xs).drop (openFrom (p :: xs) c)) ↔ (((p :: xs).getLast (by simp)).f1 = v ∨ atS (p :: xs) (c + 1) = v ∨ ∃ y ∈ p :: xs, y.f1 = v ∧ y.f0 > c) := by
  obtain ⟨p0, _, _, hc⟩ := right_cons h
  have em : mn c 1099511627776 = c := by unfold mn; split <;> omega
  rw [vers_mem, drop_open hc, em, List.mem_map]
  exact opn_mem hc (by omega)

def lastV : Int → List S34 → Int
  | v, [] => v
  | _, x :: xs => lastV x.f1 xs
theorem repf_last {pv : Int} {xs : List S34} {a v : Int} : lastV pv (repf pv xs a v) = v := by
  induction xs generalizing pv with
  | nil =>
    simp only [repf]
    split
    · rename_i h; exact h
    · rfl
  | cons x xs ih =>
    simp only [repf]
    split
    · exact ih
    · split
      · rename_i h; exact h
      · rfl
theorem repf_le {pv : Int} {xs : List S34} {a v : Int} : ∀ y ∈ repf pv xs a v, y.f0 ≤ a := by
  induction xs generalizing pv with
  | nil =>
    intro y hy
    simp only [repf] at hy
    split at hy
    · cases hy
    · simp at hy; subst hy; exact Int.le_refl _
  | cons x xs ih =>
    intro y hy
    simp only [repf] at hy
    split at hy
    · rename_i h
      rcases List.mem_cons.1 hy with rfl | hy
      · omega
      · exact ih y hy
    · split at hy
      · cases hy
      · simp at hy; subst hy; exact Int.le_refl _
theorem rep_open {p : S34} {xs : List S34} {a v : Int} (h : right (p :: xs) = true) (h0 : 0 ≤ a) (ha : a ≤ 1099511627776) (h1 : 1 ≤ v) (h2 : v ≤ 50) :
    vers ((repS (p :: xs) a v).drop (openFrom (repS (p :: xs) a v) (a - 1))) = [v] := by
  have hr := repS_right h h0 ha h1 h2
  have em : mn (a - 1) 1099511627776 = a - 1 := by unfold mn; split <;> omega
  have key : ∀ (q : S34) (ys : List S34), (∀ y ∈ ys, y.f0 ≤ a) → lastV q.f1 ys = v → (opn (a - 1) q ys).map (·.f1) = [v] := by
    intro q ys
    induction ys generalizing q with
    | nil => intro _ hv; simpa [opn, lastV] using hv
    | cons y ys ih =>
      intro hle hv
      have := hle y (by simp)
      simp only [opn]
      rw [if_pos (by omega)]
      exact ih y (fun z hz => hle z (by simp [hz])) hv
  have fin_ : ∀ (q : S34) (ys : List S34), chain q ys = true → (∀ y ∈ ys, y.f0 ≤ a) → lastV q.f1 ys = v → vers ((q :: ys).drop (openFrom (q :: ys) (a - 1))) = [v] := by
    intro q ys hc hle hv
    refine vers_eq (by simp) (fun x => ?_)
    rw [drop_open hc, em, key q ys hle hv]
  simp only [repS] at hr ⊢
  split
  · rename_i hlt
    rw [if_pos hlt] at hr
    exact fin_ p _ (right_cons hr).2.2.2 repf_le repf_last
  · rename_i hge
    exact fin_ ⟨a, v⟩ [] rfl (fun y hy => by cases hy) rfl

theorem atf_mem {v t : Int} {xs : List S34} : atf v xs t = v ∨ ∃ z ∈ xs, z.f1 = atf v xs t := by
  induction xs generalizing v with
  | nil => exact .inl rfl
  | cons x xs ih =>
    simp only [atf]
    split
    · rcases ih (v := x.f1) with h | ⟨z, hz, h⟩
      · exact .inr ⟨x, by simp, h.symm⟩
      · exact .inr ⟨z, by simp [hz], h⟩
    · exact .inl rfl
theorem at_later {p : S34} {xs : List S34} {v a b : Int} (h : chain p xs = true) (hab : a ≤ b) : atf v xs (b + 1) = atf v xs (a + 1) ∨ ∃ z ∈ xs, z.f1 = atf v xs (b + 1) ∧ z.f0 > a := by
  induction xs generalizing p v with
  | nil => exact .inl rfl
  | cons x xs ih =>
    obtain ⟨h1, hc⟩ := chain_cons h
    simp only [atf]
    by_cases hx : x.f0 ≤ a + 1
    · rw [if_pos hx, if_pos (by omega)]
      rcases ih (v := x.f1) hc with h2 | ⟨z, hz, h2⟩
      · exact .inl h2
      · exact .inr ⟨z, by simp [hz], h2⟩
    · rw [if_neg hx]
      split
      · rcases atf_mem (v := x.f1) (t := b + 1) (xs := xs) with h2 | ⟨z, hz, h2⟩
        · exact .inr ⟨x, by simp, h2.symm, by omega⟩
        · have := chain_all hc z hz
          exact .inr ⟨z, by simp [hz], h2, by omega⟩
      · exact .inl rfl

/-! ### the law -/
section
variable {p : S34} {ps : List S34} {closed later version : Int} (hr : right (p :: ps) = true) (hlen : (p :: ps).length ≤ 40) (hc0 : -1 ≤ closed) (hcl : closed ≤ later) (hlm : later < 1099511627776)
include hlen in
theorem lawOpen_l1 (O : List Int) (v : Int) : ∀ (xs : List S34) (i : Nat) (fl : Bool), (p :: ps).drop i = xs →
    Ev (fun k => erratalaw45_TimelineOpen.l2 k (p :: ps) closed later version true O v (fl || xs.any (fun s => decide (s.f1 = v) && decide (s.f0 > closed))) false 0) true →
    Ev (fun k => erratalaw45_TimelineOpen.l1 k (p :: ps) closed later version true O v fl (i : Int)) true := by
  intro xs
  induction xs with
  | nil =>
    intro i fl hd hk
    have hn := drop_nil hd
    refine Ev.succ ?_
    simp only [erratalaw45_TimelineOpen.l1, not_lt_cast hn, if_false]
    simpa using hk
  | cons x xs ih =>
    intro i fl hd hk
    obtain ⟨hi, hx, hd⟩ := drop_cons hd
    have e2 := wrap_succ (i := i) (by omega)
    refine Ev.succ ?_
    cases fl with
    | true =>
      simp only [erratalaw45_TimelineOpen.l1, lt_cast hi, if_true, e2]
      exact ih (i + 1) true hd (by simpa using hk)
    | false =>
      simp only [erratalaw45_TimelineOpen.l1, lt_cast hi, if_true, Bool.false_eq_true, if_false, zero_le_cast, rd34 hx, e2]
      by_cases h1 : x.f1 = v
      · simp only [h1, if_true]
        refine ih (i + 1) _ hd ?_
        simpa [h1] using hk
      · simp only [h1, if_false]
        refine ih (i + 1) _ hd ?_
        simpa [h1] using hk
theorem lawOpen_l2 (O : List Int) (hO : O.length < 4611686018427387904) (v : Int) (is : Bool) (hv : v < 1000)
    (hnext : Ev (fun k => erratalaw45_TimelineOpen.l0 k (p :: ps) closed later version true O (wrap64 (v + 1))) true) : ∀ (xs : List Int) (i : Nat) (fl : Bool), O.drop i = xs → (fl || xs.any (fun y => y == v)) = is →
    Ev (fun k => erratalaw45_TimelineOpen.l2 k (p :: ps) closed later version true O v is fl (i : Int)) true := by
  intro xs
  induction xs with
  | nil =>
    intro i fl hd hf
    have hn := drop_nil hd
    have hb : (fl != is) = false := by simpa using hf
    refine Ev.succ ?_
    simp only [erratalaw45_TimelineOpen.l2, not_lt_cast hn, if_false, hb, Bool.false_eq_true]
    exact hnext
  | cons x xs ih =>
    intro i fl hd hf
    obtain ⟨hi, hx, hd⟩ := drop_cons hd
    have e2 := wrap_succ (i := i) (by omega)
    refine Ev.succ ?_
    cases fl with
    | true =>
      simp only [erratalaw45_TimelineOpen.l2, lt_cast hi, if_true, e2]
      exact ih (i + 1) true hd (by simpa using hf)
    | false =>
      simp only [erratalaw45_TimelineOpen.l2, lt_cast hi, if_true, Bool.false_eq_true, if_false, zero_le_cast, rdI hx, e2]
      exact ih (i + 1) _ hd (by simpa using hf)
theorem lawOpen_l4 (O L : List Int) (hO : O.length < 4611686018427387904) (j : Nat) (y : Int) (hy : L[j]? = some y) (hin : y ∈ O)
    (hnext : Ev (fun k => erratalaw45_TimelineOpen.l3 k (p :: ps) later version true O L (wrap64 ((j : Int) + 1))) true) : ∀ (xs : List Int) (i : Nat) (fl : Bool), O.drop i = xs → (fl = true ∨ y ∈ xs) →
    Ev (fun k => erratalaw45_TimelineOpen.l4 k (p :: ps) later version true O L (j : Int) fl (i : Int)) true := by
  have hj := (List.getElem?_eq_some_iff.1 hy).1
  intro xs
  induction xs with
  | nil =>
    intro i fl hd hf
    have hn := drop_nil hd
    have hb : fl = true := by simpa using hf
    refine Ev.succ ?_
    simp only [erratalaw45_TimelineOpen.l4, not_lt_cast hn, if_false, hb, if_true]
    exact hnext
  | cons x xs ih =>
    intro i fl hd hf
    obtain ⟨hi, hx, hd⟩ := drop_cons hd
    have e2 := wrap_succ (i := i) (by omega)
    refine Ev.succ ?_
    cases fl with
    | true =>
      simp only [erratalaw45_TimelineOpen.l4, lt_cast hi, if_true, e2]
      exact ih (i + 1) true hd (.inl rfl)
    | false =>
      simp only [erratalaw45_TimelineOpen.l4, lt_cast hi, lt_cast hj, if_true, Bool.false_eq_true, if_false, zero_le_cast, rdI hx, rdI hy, e2]
      refine ih (i + 1) _ hd ?_
      rcases hf with hf | hf
      · cases hf
      · rcases List.mem_cons.1 hf with rfl | hf
        · exact .inl (by simp)
        · exact .inr hf
include hr hlen hc0 hcl hlm in
theorem lawOpen_l3 (O L : List Int) (hO : O.length < 4611686018427387904) (hL : L.length < 4611686018427387904) (hin : ∀ y ∈ L, y ∈ O) : ∀ (xs : List Int) (j : Nat), L.drop j = xs →
    Ev (fun k => erratalaw45_TimelineOpen.l3 k (p :: ps) later version true O L (j : Int)) true := by
  intro xs
  induction xs with
  | nil =>
    intro j hd
    have hn := drop_nil hd
    have ew : wrap64 (later + 1) = later + 1 := wrap_id (by omega) (by omega)
    refine Ev.succ ?_
    simp only [erratalaw45_TimelineOpen.l3, not_lt_cast hn, if_false, ew]
    by_cases hv : 1 ≤ version ∧ version ≤ 50
    · refine Ev.bind (replace_ev hr (by omega) (by omega) (by omega) hv.1 hv.2) ?_
      simp only [if_true]
      have hrr := repS_right hr (a := later + 1) (by omega) (by omega) hv.1 hv.2
      have hrl := repS_len (l := p :: ps) (a := later + 1) (v := version)
      refine Ev.bind (ev_eq (open_ev hrr (by omega) later (by omega)) (show _ = [version] from ?_)) ?_
      · have := rep_open hr (a := later + 1) (by omega) (by omega) hv.1 hv.2
        rwa [show later + 1 - 1 = later by omega] at this
      · refine Ev.none_k ?_
        have e0 : rd [version] 0 = version := rfl
        simp [e0]
    · refine Ev.bind (replace_bad (by omega)) ?_
      have h3 : ¬ ((3 : Int) = 0) := by decide
      simp only [h3, if_false, if_true]
      refine Ev.none_k ?_
      by_cases h4 : version < 1
      · simp [h4]
      · have : version > 50 := by omega
        simp [h4, this]
  | cons y xs ih =>
    intro j hd
    obtain ⟨hj, hy, hd⟩ := drop_cons hd
    have e2 := wrap_succ (i := j) (by omega)
    have hyO := hin y (List.mem_of_getElem? hy)
    refine Ev.succ ?_
    simp only [erratalaw45_TimelineOpen.l3, lt_cast hj, if_true]
    exact lawOpen_l4 O L hO j y hy hyO (by rw [e2]; exact ih (j + 1) hd) O 0 false rfl (.inr hyO)
include hr hlen hc0 hcl hlm in
theorem lawOpen_l0 (O L : List Int) (hOe : O = vers ((p :: ps).drop (openFrom (p :: ps) closed))) (hLe : L = vers ((p :: ps).drop (openFrom (p :: ps) later))) (hO : O.length < 4611686018427387904) (hL : L.length < 4611686018427387904) (hin : ∀ y ∈ L, y ∈ O) : ∀ (d : Nat) (v : Int), v + d = 51 → 1 ≤ v →
    Ev (fun k => erratalaw45_TimelineOpen.l0 k (p :: ps) closed later version true O v) true := by
  intro d
  induction d with
  | zero =>
    intro v hd h1
    have hn : ¬ v ≤ 50 := by omega
    refine Ev.succ ?_
    simp only [erratalaw45_TimelineOpen.l0, hn, if_false]
    refine Ev.bind (open_ev hr (by omega) later (by omega)) ?_
    rw [← hLe]
    exact lawOpen_l3 hr hlen hc0 hcl hlm O L hO hL hin L 0 rfl
  | succ d ih =>
    intro v hd h1
    have hn : v ≤ 50 := by omega
    have ew : wrap64 (v + 1) = v + 1 := wrap_id (by omega) (by omega)
    have ih := ih (v + 1) (by omega) (by omega)
    have ewl : wrap64 (((p :: ps).length : Int) - 1) = (((p :: ps).length - 1 : Nat) : Int) := by
      simp only [List.length_cons] at hlen ⊢
      rw [wrap_id (by omega) (by omega)]; omega
    have hll : (p :: ps).length - 1 < (p :: ps).length := by simp
    have hlast : (p :: ps)[(p :: ps).length - 1]? = some ((p :: ps).getLast (by simp)) := by
      rw [List.getElem?_eq_getElem hll, List.getLast_eq_getElem]
    have ewc : wrap64 (closed + 1) = closed + 1 := wrap_id (by omega) (by omega)
    have hat : timeline_At.f (p :: ps) (closed + 1) = some (atS (p :: ps) (closed + 1)) := at_right hr (by omega)
    have key : ∀ is : Bool, is = (decide (((p :: ps).getLast (by simp)).f1 = v) || (atS (p :: ps) (closed + 1) == v)) → Ev (fun k => erratalaw45_TimelineOpen.j2 k (p :: ps) closed later version true O v is) true := by
      intro is his
      refine Ev.succ ?_
      simp only [erratalaw45_TimelineOpen.j2]
      refine lawOpen_l1 hlen O v (p :: ps) 0 is rfl ?_
      refine lawOpen_l2 O hO v _ (by omega) (by rw [ew]; exact ih) O 0 false rfl ?_
      rw [Bool.false_or, Bool.eq_iff_iff, List.any_eq_true]
      have hm := open_mem (v := v) hr hc0 (by omega : closed < 1099511627776)
      rw [← hOe] at hm
      rw [his, Bool.or_eq_true, Bool.or_eq_true, List.any_eq_true, decide_eq_true_iff, beq_iff_eq]
      constructor
      · rintro ⟨y, hy, he⟩
        have he : y = v := by simpa using he
        subst he
        rcases hm.1 hy with h2 | h2 | ⟨z, hz, h2, h3⟩
        · exact .inl (.inl h2)
        · exact .inl (.inr h2)
        · exact .inr ⟨z, hz, by simp [h2, h3]⟩
      · intro h2
        refine ⟨v, hm.2 ?_, by simp⟩
        rcases h2 with (h2 | h2) | ⟨z, hz, h2⟩
        · exact .inl h2
        · exact .inr (.inl h2)
        · simp at h2
          exact .inr (.inr ⟨z, hz, h2.1, h2.2⟩)
    refine Ev.succ ?_
    simp only [erratalaw45_TimelineOpen.l0, hn, if_true, ewl, zero_le_cast, lt_cast hll, rd34 hlast, ewc, hat, Option.bind_some]
    by_cases hl : ((p :: ps).getLast (by simp)).f1 = v
    · simp only [hl, if_true]
      exact key true (by simp [hl])
    · simp only [hl, if_false]
      exact key _ (by simp [hl])
end
theorem vers_len (l : List S34) : (vers l).length ≤ l.length := by
  unfold vers Lib.compact Lib.compactUpTo
  rw [List.length_map]
  refine Nat.le_trans (List.length_filter_le _ _) ?_
  simp
theorem TimelineOpen_ev (l : List S34) (closed later version : Int) : Ev (fun k => erratalaw45_TimelineOpen.f k l closed later version) true := by
  unfold erratalaw45_TimelineOpen.f
  refine Ev.bind small_ev ?_
  have hj : Ev (fun k => erratalaw45_TimelineOpen.j0 k l closed later version true true) true := by
    refine Ev.succ ?_
    simp only [erratalaw45_TimelineOpen.j0, if_true]
    exact Ev.now _
  by_cases h1 : (l.length : Int) > 40
  · simp only [h1, if_true]
    exact hj
  · simp only [h1, if_false]
    refine Ev.bind (right_ev l (by omega)) ?_
    cases hr : right l with
    | false =>
      simp only [Bool.false_eq_true, if_false]
      exact hj
    | true =>
      simp only [if_true]
      by_cases h2 : later < closed
      · simp only [h2, if_true]
        exact hj
      · by_cases h3 : closed < -1
        · simp only [h2, h3, if_true, if_false]
          exact hj
        · by_cases h4 : later ≥ 1099511627776
          · simp only [h2, h3, h4, if_false, decide_true]
            exact hj
          · simp only [h2, h3, h4, if_false, decide_false]
            refine Ev.succ ?_
            simp only [erratalaw45_TimelineOpen.j0, Bool.false_eq_true, if_false]
            refine Ev.bind (open_ev hr (by omega) closed (by omega)) ?_
            cases l with
            | nil => cases hr
            | cons p ps =>
              refine lawOpen_l0 hr (by omega) (by omega) (by omega) (by omega) _ _ rfl rfl ?_ ?_ ?_ 50 1 (by omega) (by omega)
              · have := vers_len ((p :: ps).drop (openFrom (p :: ps) closed))
                rw [List.length_drop] at this
                omega
              · have := vers_len ((p :: ps).drop (openFrom (p :: ps) later))
                rw [List.length_drop] at this
                omega
              · intro y hy
                rw [open_mem hr (by omega) (by omega)] at hy ⊢
                rcases hy with h | h | ⟨z, hz, h, h5⟩
                · exact .inl h
                · obtain ⟨p0, _, _, hc⟩ := right_cons hr
                  simp only [atS] at h ⊢
                  rcases at_later (v := p.f1) hc (show closed ≤ later by omega) with h5 | ⟨z, hz, h5, h6⟩
                  · exact .inr (.inl (h5 ▸ h))
                  · exact .inr (.inr ⟨z, by simp [hz], by rw [h5, h], h6⟩)
                · exact .inr (.inr ⟨z, hz, h, by omega⟩)
end Go.Proofs.Ytkaheioacolemaa.XT
