/- The plain laws of what is open, Conditions: as each states. -/
import Derived.Test.YtkaheioacolemaaPl2

namespace Go.Proofs.Ytkaheioacolemaa.XT
open Go.RowKit Go.Proofs.YtkaheioacolemaaW.PrintWords Go.Proofs.YtkaheioacolemaaW.PrintLast Go.Proofs.YtkaheioacolemaaW.PrintMore Go.Proofs.Ytkaheioacolemaa.B
set_option linter.unusedVariables false
set_option linter.unusedSimpArgs false

/-- The segments from the one on that contains the time c + 1. -/
def opn (c : Int) : S34 → List S34 → List S34
  | p, [] => [p]
  | p, x :: xs => if x.f0 ≤ c + 1 then opn c x xs else p :: x :: xs
theorem drop_count {p : S34} {xs : List S34} {c : Int} (h : chain p xs = true) : (p :: xs).drop (xs.countP (fun s => decide (s.f0 ≤ c + 1))) = opn c p xs := by
  induction xs generalizing p with
  | nil => rfl
  | cons x xs ih =>
    obtain ⟨h1, hc⟩ := chain_cons h
    by_cases hx : x.f0 ≤ c + 1
    · rw [List.countP_cons_of_pos (by simpa using hx)]
      simp only [opn, hx, if_true, List.drop_succ_cons]
      exact ih hc
    · rw [List.countP_cons_of_neg (by simpa using hx), count_none hc (by omega)]
      simp [opn, hx]
theorem drop_open {p : S34} {xs : List S34} {c : Int} (h : chain p xs = true) : (p :: xs).drop (openFrom (p :: xs) c) = opn (mn c 1099511627776) p xs := by
  have e : openFrom (p :: xs) c = xs.countP (fun s => decide (s.f0 ≤ mn c 1099511627776 + 1)) := by
    unfold openFrom
    by_cases hp : p.f0 ≤ mn c 1099511627776 + 1
    · rw [List.countP_cons_of_pos (by simpa using hp)]
      omega
    · rw [List.countP_cons_of_neg (by simpa using hp), count_none h (by omega)]
      rfl
  rw [e]
  exact drop_count h
theorem opn_mem {p : S34} {xs : List S34} {c v : Int} (h : chain p xs = true) (hp : p.f0 ≤ c + 1) :
    (∃ y ∈ opn c p xs, y.f1 = v) ↔ (((p :: xs).getLast (by simp)).f1 = v ∨ atf p.f1 xs (c + 1) = v ∨ ∃ y ∈ p :: xs, y.f1 = v ∧ y.f0 > c) := by
  induction xs generalizing p with
  | nil => simp [opn, atf]; omega
  | cons x xs ih =>
    obtain ⟨h1, hc⟩ := chain_cons h
    by_cases hx : x.f0 ≤ c + 1
    · simp only [opn, hx, if_true, atf]
      rw [ih hc hx]
      have gl : (p :: x :: xs).getLast (by simp) = (x :: xs).getLast (by simp) := List.getLast_cons (by simp)
      rw [gl]
      constructor
      · rintro (h2 | h2 | ⟨y, hy, h2⟩)
        · exact .inl h2
        · exact .inr (.inl h2)
        · exact .inr (.inr ⟨y, List.mem_cons_of_mem _ hy, h2⟩)
      · rintro (h2 | h2 | ⟨y, hy, h2, h3⟩)
        · exact .inl h2
        · exact .inr (.inl h2)
        · rcases List.mem_cons.1 hy with rfl | hy
          · omega
          · exact .inr (.inr ⟨y, hy, h2, h3⟩)
    · simp only [opn, hx, if_false, atf]
      constructor
      · rintro ⟨y, hy, h2⟩
        rcases List.mem_cons.1 hy with rfl | hy
        · exact .inr (.inl h2)
        · refine .inr (.inr ⟨y, List.mem_cons_of_mem _ hy, h2, ?_⟩)
          rcases List.mem_cons.1 hy with rfl | hy
          · omega
          · have := chain_all hc y hy
            omega
      · rintro (h2 | h2 | ⟨y, hy, h2, h3⟩)
        · exact ⟨_, List.getLast_mem (by simp), h2⟩
        · exact ⟨p, by simp, h2⟩
        · exact ⟨y, hy, h2⟩
theorem open_mem {p : S34} {xs : List S34} {c v : Int} (h : right (p :: xs) = true) (h0 : -1 ≤ c) (h1 : c < 1099511627776) :
    v ∈ vers ((p :: xs).drop (openFrom (p :: xs) c)) ↔ (((p :: xs).getLast (by simp)).f1 = v ∨ atS (p :: xs) (c + 1) = v ∨ ∃ y ∈ p :: xs, y.f1 = v ∧ y.f0 > c) := by
  obtain ⟨p0, _, _, hc⟩ := right_cons h
  have em : mn c 1099511627776 = c := by unfold mn; split <;> omega
  rw [vers_mem, drop_open hc, em, List.mem_map]
  exact opn_mem hc (by omega)

def lastV : Int → List S34 → Int
  | v, [] => v
  | _, x :: xs => lastV x.f1 xs
theorem repf_last {pv : Int} {xs : List S34} {a v : Int} : lastV pv (repf pv xs a v) = v := by
  induction xs generalizing pv with
  | nil =>
    simp only [repf]
    split
    · rename_i h; exact h
    · rfl
  | cons x xs ih =>
    simp only [repf]
    split
    · exact ih
    · split
      · rename_i h; exact h
      · rfl
theorem repf_le {pv : Int} {xs : List S34} {a v : Int} : ∀ y ∈ repf pv xs a v, y.f0 ≤ a := by
  induction xs generalizing pv with
  | nil =>
    intro y hy
    simp only [repf] at hy
    split at hy
    · cases hy
    · simp at hy; subst hy; exact Int.le_refl _
  | cons x xs ih =>
    intro y hy
    simp only [repf] at hy
    split at hy
    · rename_i h
      rcases List.mem_cons.1 hy with rfl | hy
      · omega
      · exact ih y hy
    · split at hy
      · cases hy
      · simp at hy; subst hy; exact Int.le_refl _
theorem rep_open {p : S34} {xs : List S34} {a v : Int} (h : right (p :: xs) = true) (h0 : 0 ≤ a) (ha : a ≤ 1099511627776) (h1 : 1 ≤ v) (h2 : v ≤ 50) :
    vers ((repS (p :: xs) a v).drop (openFrom (repS (p :: xs) a v) (a - 1))) = [v] := by
  have hr := repS_right h h0 ha h1 h2
  have em : mn (a - 1) 1099511627776 = a - 1 := by unfold mn; split <;> omega
  have key : ∀ (q : S34) (ys : List S34), (∀ y ∈ ys, y.f0 ≤ a) → lastV q.f1 ys = v → (opn (a - 1) q ys).map (·.f1) = [v] := by
    intro q ys
    induction ys generalizing q with
    | nil => intro _ hv; simpa [opn, lastV] using hv
    | cons y ys ih =>
      intro hle hv
      have := hle y (by simp)
      simp only [opn]
      rw [if_pos (by omega)]
      exact ih y (fun z hz => hle z (by simp [hz])) hv
  have fin_ : ∀ (q : S34) (ys : List S34), chain q ys = true → (∀ y ∈ ys, y.f0 ≤ a) → lastV q.f1 ys = v → vers ((q :: ys).drop (openFrom (q :: ys) (a - 1))) = [v] := by
    intro q ys hc hle hv
    refine vers_eq (by simp) (fun x => ?_)
    rw [drop_open hc, em, key q ys hle hv]
  simp only [repS] at hr ⊢
  split
  · rename_i hlt
    rw [if_pos hlt] at hr
    exact fin_ p _ (right_cons hr).2.2.2 repf_le repf_last
  · rename_i hge
    exact fin_ ⟨a, v⟩ [] rfl (fun y hy => by cases hy) rfl

theorem atf_mem {v t : Int} {xs : List S34} : atf v xs t = v ∨ ∃ z ∈ xs, z.f1 = atf v xs t := by
  induction xs generalizing v with
  | nil => exact .inl rfl
  | cons x xs ih =>
    simp only [atf]
    split
    · rcases ih (v := x.f1) with h | ⟨z, hz, h⟩
      · exact .inr ⟨x, by simp, h.symm⟩
      · exact .inr ⟨z, by simp [hz], h⟩
    · exact .inl rfl
theorem at_later {p : S34} {xs : List S34} {v a b : Int} (h : chain p xs = true) (hab : a ≤ b) : atf v xs (b + 1) = atf v xs (a + 1) ∨ ∃ z ∈ xs, z.f1 = atf v xs (b + 1) ∧ z.f0 > a := by
  induction xs generalizing p v with
  | nil => exact .inl rfl
  | cons x xs ih =>
    obtain ⟨h1, hc⟩ := chain_cons h
    simp only [atf]
    by_cases hx : x.f0 ≤ a + 1
    · rw [if_pos hx, if_pos (by omega)]
      rcases ih (v := x.f1) hc with h2 | ⟨z, hz, h2⟩
      · exact .inl h2
      · exact .inr ⟨z, by simp [hz], h2⟩
    · rw [if_neg hx]
      split
      · rcases atf_mem (v := x.f1) (t := b + 1) (xs := xs) with h2 | ⟨z, hz, h2⟩
        · exact .inr ⟨x, by simp, h2.symm, by omega⟩
        · have := chain_all hc z hz
          exact .inr ⟨z, by simp [hz], h2, by omega⟩
      · exact .inl rfl

theorem vers_len (l : List S34) : (vers l).length ≤ l.length := by
  unfold vers Lib.compact Lib.compactUpTo
  rw [List.length_map]
  refine Nat.le_trans (List.length_filter_le _ _) ?_
  simp
end Go.Proofs.Ytkaheioacolemaa.XT
