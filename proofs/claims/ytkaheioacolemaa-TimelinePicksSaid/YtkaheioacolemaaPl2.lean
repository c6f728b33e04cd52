/- The plain laws of Replace, of the examples, and of two laws: TimelineSame and TimelineLast. Conditions: as each states. -/
import Derived.Test.YtkaheioacolemaaPl1
import Derived.Test.YtkaheioacolemaaXTx2
import Derived.Test.YtkaheioacolemaaXTx3
import Derived.Test.YtkaheioacolemaaXTx4
namespace Go.Proofs.Ytkaheioacolemaa.XT
open Go.RowKit Go.Proofs.YtkaheioacolemaaW.PrintWords Go.Proofs.YtkaheioacolemaaW.PrintLast Go.Proofs.YtkaheioacolemaaW.PrintMore Go.Proofs.Ytkaheioacolemaa.B
set_option linter.unusedVariables false
set_option linter.unusedSimpArgs false

/-- What follows a segment with the version pv, replaced from a time on. -/
def repf (pv : Int) : List S34 → Int → Int → List S34
  | [], a, v => if pv = v then [] else [⟨a, v⟩]
  | x :: xs, a, v => if x.f0 < a then x :: repf x.f1 xs a v else if pv = v then [] else [⟨a, v⟩]
def repS : List S34 → Int → Int → List S34
  | [], a, v => [⟨a, v⟩]
  | p :: xs, a, v => if p.f0 < a then p :: repf p.f1 xs a v else [⟨a, v⟩]

theorem repf_chain {p : S34} {xs : List S34} {a v : Int} (h : chain p xs = true) (hp : p.f0 < a) (ha : a ≤ 1099511627776) (h1 : 1 ≤ v) (h2 : v ≤ 50) : chain p (repf p.f1 xs a v) = true := by
  induction xs generalizing p with
  | nil =>
    simp only [repf]
    split
    · rfl
    · rename_i hv
      exact chain_mk ⟨hp, ha, h1, h2, fun e => hv e.symm⟩ rfl
  | cons x xs ih =>
    obtain ⟨hx, hc⟩ := chain_cons h
    simp only [repf]
    split
    · rename_i hlt
      exact chain_mk hx (ih hc hlt)
    · split
      · rfl
      · rename_i hv
        exact chain_mk ⟨hp, ha, h1, h2, fun e => hv e.symm⟩ rfl
theorem repf_at {pv : Int} {xs : List S34} {a v t : Int} : atf pv (repf pv xs a v) t = if a ≤ t then v else atf pv xs t := by
  induction xs generalizing pv with
  | nil =>
    simp only [repf]
    split
    · rename_i hv
      subst hv
      simp [atf]
    · simp [atf]
  | cons x xs ih =>
    simp only [repf]
    split
    · rename_i hlt
      simp only [atf, ih]
      by_cases hxt : x.f0 ≤ t
      · simp [hxt]
      · have : ¬ a ≤ t := by omega
        simp [hxt, this]
    · rename_i hge
      by_cases hv : pv = v
      · subst hv
        simp only [if_true, atf]
        by_cases hat : a ≤ t
        · simp [hat]
        · have : ¬ x.f0 ≤ t := by omega
          simp [hat, this]
      · simp only [hv, if_false, atf]
        by_cases hat : a ≤ t
        · simp [hat]
        · have : ¬ x.f0 ≤ t := by omega
          simp [hat, this]
theorem repS_right {l : List S34} {a v : Int} (h : right l = true) (h0 : 0 ≤ a) (ha : a ≤ 1099511627776) (h1 : 1 ≤ v) (h2 : v ≤ 50) : right (repS l a v) = true := by
  cases l with
  | nil => cases h
  | cons p xs =>
    obtain ⟨p0, p1, p2, hc⟩ := right_cons h
    simp only [repS]
    split
    · rename_i hlt
      exact right_mk ⟨p0, p1, p2, repf_chain hc hlt ha h1 h2⟩
    · exact right_mk ⟨by show a = 0; omega, h1, h2, rfl⟩
theorem repS_at {l : List S34} {a v t : Int} (h : right l = true) (h0 : 0 ≤ a) (ht : 0 ≤ t) : atS (repS l a v) t = if a ≤ t then v else atS l t := by
  cases l with
  | nil => cases h
  | cons p xs =>
    obtain ⟨p0, p1, p2, hc⟩ := right_cons h
    simp only [repS]
    split
    · rename_i hlt
      simp only [atS, repf_at]
    · rename_i hge
      have : a ≤ t := by omega
      simp [atS, atf, this]
theorem repf_len {pv : Int} {xs : List S34} {a v : Int} : (repf pv xs a v).length ≤ xs.length + 1 := by
  induction xs generalizing pv with
  | nil => simp only [repf]; split <;> simp
  | cons x xs ih =>
    simp only [repf]
    split
    · have := ih (pv := x.f1)
      simp only [List.length_cons]
      omega
    · split <;> simp
theorem repS_len {l : List S34} {a v : Int} : (repS l a v).length ≤ l.length + 1 := by
  cases l with
  | nil => simp [repS]
  | cons p xs =>
    simp only [repS]
    split
    · have := repf_len (pv := p.f1) (xs := xs) (a := a) (v := v)
      simp only [List.length_cons]
      omega
    · simp

/-- As the program makes it: as many as begin before, and one more if the last of them has another version. -/
def fin (l : List S34) (a v : Int) : List S34 := match l.getLast? with
  | none => l ++ [⟨a, v⟩]
  | some y => if y.f1 = v then l else l ++ [⟨a, v⟩]
theorem fin_cons (p : S34) (l : List S34) (a v : Int) : fin (p :: l) a v = p :: (match l.getLast? with
    | none => if p.f1 = v then [] else [⟨a, v⟩]
    | some y => if y.f1 = v then l else l ++ [⟨a, v⟩]) := by
  cases l with
  | nil =>
    simp only [fin, List.getLast?_singleton, List.getLast?_nil]
    split <;> rfl
  | cons q l =>
    have : (p :: q :: l).getLast? = (q :: l).getLast? := by simp
    simp only [fin, this]
    cases h : (q :: l).getLast? with
    | none => simp at h
    | some y =>
      simp only
      split <;> rfl
theorem take_count {p : S34} {xs : List S34} {a v : Int} (h : chain p xs = true) (hp : p.f0 < a) :
    fin (p :: xs.take (xs.countP (fun s => decide (s.f0 ≤ a - 1)))) a v = p :: repf p.f1 xs a v := by
  induction xs generalizing p with
  | nil =>
    rw [fin_cons]
    rfl
  | cons x xs ih =>
    obtain ⟨hx, hc⟩ := chain_cons h
    by_cases hlt : x.f0 < a
    · have e : (x :: xs).take ((x :: xs).countP (fun s => decide (s.f0 ≤ a - 1))) = x :: xs.take (xs.countP (fun s => decide (s.f0 ≤ a - 1))) := by
        rw [List.countP_cons_of_pos (by simp; omega)]
        rfl
      have ih := ih hc hlt
      rw [e]
      simp only [repf, hlt, if_true]
      rw [← ih, fin_cons]
      have : ∀ y ys, (y :: ys : List S34).getLast? = some ((y :: ys).getLast (by simp)) := fun y ys => List.getLast?_eq_some_getLast (by simp)
      simp only [fin]
      rw [this]
    · have hz : (x :: xs).countP (fun s => decide (s.f0 ≤ a - 1)) = 0 := by
        rw [List.countP_cons_of_neg (by simp; omega)]
        exact count_none hc (by omega)
      rw [hz, List.take_zero, fin_cons]
      simp [repf, hlt]
theorem replace_ev {l : List S34} {a v : Int} (h : right l = true) (hl : l.length < 8796093022207) (h0 : 0 ≤ a) (ha : a ≤ 1099511627776) (h1 : 1 ≤ v) (h2 : v ≤ 50) :
    Ev (fun k => timeline_Replace.f k l a v) (repS l a v, 0) := by
  cases l with
  | nil => cases h
  | cons p xs =>
    obtain ⟨p0, p1, p2, hc⟩ := right_cons h
    have n1 : ¬ a < 0 := by omega
    have n2 : ¬ a > 1099511627776 := by omega
    have n3 : ¬ v < 1 := by omega
    have n4 : ¬ v > 50 := by omega
    unfold timeline_Replace.f
    simp only [n1, n2, n3, n4, if_false, decide_false]
    refine Ev.succ ?_
    have ew : wrap64 (a - 1) = a - 1 := wrap_id (by omega) (by omega)
    have hb := behind_eq (t := a - 1) hc (by omega)
    have hcl := count_le (p :: xs) (a - 1)
    have hn : ∀ n : Nat, (0 ≤ (n : Int)) = True := fun n => eq_true (by omega)
    have hle : ((((p :: xs).countP (fun s => decide (s.f0 ≤ a - 1)) : Nat) : Int) ≤ ((p :: xs).length : Int)) = True := eq_true (by omega)
    simp only [timeline_Replace.j0, Bool.false_eq_true, if_false, ew, hb, Option.bind_some, hn, hle, if_true, Int.toNat_natCast]
    have hf : fin ((p :: xs).take ((p :: xs).countP (fun s => decide (s.f0 ≤ a - 1)))) a v = repS (p :: xs) a v := by
      simp only [repS]
      split
      · rename_i hlt
        rw [List.countP_cons_of_pos (by simp; omega)]
        exact take_count hc hlt
      · rename_i hge
        rw [List.countP_cons_of_neg (by simp; omega), count_none hc (by omega)]
        rfl
    have htl : ((p :: xs).take ((p :: xs).countP (fun s => decide (s.f0 ≤ a - 1)))).length ≤ (p :: xs).length := by
      rw [List.length_take]
      omega
    rw [← hf]
    generalize (p :: xs).take ((p :: xs).countP (fun s => decide (s.f0 ≤ a - 1))) = out at htl
    have hlo : out.length < 8796093022208 := by omega
    have hcl : api_Seg_28.f out = some out := by
      unfold api_Seg_28.f
      rw [if_pos hlo]
    rw [hcl]
    simp only [Option.bind_some, hlo, if_true]
    refine Ev.none_k ?_
    by_cases hz : out.length = 0
    · obtain rfl := List.eq_nil_of_length_eq_zero hz
      rfl
    · have hi : ¬ ((out.length : Int) = 0) := by omega
      have ew2 : wrap64 ((out.length : Int) - 1) = ((out.length - 1 : Nat) : Int) := by rw [wrap_id (by omega) (by omega)]; omega
      rw [if_neg hi, ew2, if_pos (by omega), if_pos (by omega)]
      have hg : out[out.length - 1]? = some (out.getLast (by intro e; simp [e] at hz)) := by
        rw [List.getElem?_eq_getElem (by omega), List.getLast_eq_getElem]
      rw [rd34 hg]
      have hgl : out.getLast? = some (out.getLast (by intro e; simp [e] at hz)) := List.getLast?_eq_some_getLast _
      unfold fin
      rw [hgl]
      simp only
      split <;> rfl
theorem replace_bad {l : List S34} {a v : Int} (h : a < 0 ∨ 1099511627776 < a ∨ v < 1 ∨ 50 < v) : Ev (fun k => timeline_Replace.f k l a v) ([], 3) := by
  unfold timeline_Replace.f
  have hj : Ev (fun k => timeline_Replace.j0 k l a v true) ([], 3) := by
    refine Ev.succ ?_
    simp only [timeline_Replace.j0, if_true]
    exact Ev.now _
  by_cases h1 : a < 0
  · simp only [h1, if_true]
    exact hj
  · by_cases h2 : a > 1099511627776
    · simp only [h1, h2, if_true, if_false]
      exact hj
    · by_cases h3 : v < 1
      · simp only [h1, h2, h3, if_true, if_false]
        exact hj
      · have h4 : v > 50 := by omega
        simp only [h1, h2, h3, h4, if_false, decide_true]
        exact hj

/-! ### versions, ascending -/
theorem asc_uniq : ∀ (a b : List Int), a.Pairwise (· < ·) → b.Pairwise (· < ·) → (∀ x, x ∈ a ↔ x ∈ b) → a = b
  | [], [], _, _, _ => rfl
  | [], y :: _, _, _, h => by have := (h y).2 (by simp); cases this
  | x :: _, [], _, _, h => by have := (h x).1 (by simp); cases this
  | x :: a, y :: b, ha, hb, h => by
    obtain ⟨ha1, ha2⟩ := List.pairwise_cons.1 ha
    obtain ⟨hb1, hb2⟩ := List.pairwise_cons.1 hb
    have e : x = y := by
      have h1 := (h x).1 (by simp)
      have h2 := (h y).2 (by simp)
      rcases List.mem_cons.1 h1 with h1 | h1
      · exact h1
      · rcases List.mem_cons.1 h2 with h2 | h2
        · exact h2.symm
        · have := ha1 y h2
          have := hb1 x h1
          omega
    subst e
    congr 1
    refine asc_uniq a b ha2 hb2 (fun z => ?_)
    constructor
    · intro hz
      rcases List.mem_cons.1 ((h z).1 (by simp [hz])) with h1 | h1
      · have := ha1 z hz
        omega
      · exact h1
    · intro hz
      rcases List.mem_cons.1 ((h z).2 (by simp [hz])) with h1 | h1
      · have := hb1 z hz
        omega
      · exact h1
theorem get_arr (zs : List Int) (i : Nat) (h : i < zs.length) : zs.toArray[i]! = zs[i] := by
  rw [getElem!_pos _ _ (by simpa using h)]
  simp
theorem compact_asc (zs : List Int) (h : zs.Pairwise (· ≤ ·)) : (Lib.compact zs).Pairwise (· < ·) := by
  unfold Lib.compact Lib.compactUpTo
  rw [List.pairwise_map]
  have hr : (List.range zs.length).Pairwise (fun i j => i < j ∧ j < zs.length) := by
    rw [List.pairwise_iff_getElem]
    intro i j hi hj hij
    simp only [List.getElem_range]
    rw [List.length_range] at hj
    exact ⟨hij, hj⟩
  have hf := hr.filter (Lib.keeps zs.toArray)
  rw [List.pairwise_iff_getElem] at hf ⊢
  intro i j hi hj hij
  obtain ⟨hlt, hjl⟩ := hf i j hi hj hij
  have hk : Lib.keeps zs.toArray ((List.range zs.length).filter (Lib.keeps zs.toArray))[j] = true := (List.mem_filter.1 (List.getElem_mem hj)).2
  generalize ((List.range zs.length).filter (Lib.keeps zs.toArray))[i] = a at hlt ⊢
  generalize ((List.range zs.length).filter (Lib.keeps zs.toArray))[j] = b at hlt hjl hk ⊢
  unfold Lib.keeps at hk
  rw [decide_eq_true_iff] at hk
  rw [get_arr zs a (by omega), get_arr zs b hjl]
  rcases hk with hk | hk
  · omega
  · rw [get_arr zs b hjl, get_arr zs (b - 1) (by omega)] at hk
    rw [List.pairwise_iff_getElem] at h
    have h1 : zs[b - 1] ≤ zs[b] := h (b - 1) b (by omega) hjl (by omega)
    have h2 : zs[a] ≤ zs[b - 1] := by
      rcases Nat.lt_or_ge a (b - 1) with h3 | h3
      · exact h a (b - 1) (by omega) (by omega) h3
      · have : a = b - 1 := by omega
        subst this
        exact Int.le_refl _
    omega
theorem compact_mem (zs : List Int) (x : Int) : x ∈ Lib.compact zs ↔ x ∈ zs := by
  unfold Lib.compact Lib.compactUpTo
  rw [List.mem_map]
  constructor
  · rintro ⟨i, hi, rfl⟩
    have := (List.mem_filter.1 hi).1
    rw [List.mem_range] at this
    rw [get_arr zs i this]
    exact List.getElem_mem _
  · intro hx
    obtain ⟨i, hi, rfl⟩ := List.mem_iff_getElem.1 hx
    clear hx
    induction i with
    | zero => exact ⟨0, List.mem_filter.2 ⟨List.mem_range.2 hi, by simp [Lib.keeps]⟩, get_arr zs 0 hi⟩
    | succ i ih =>
      by_cases he : zs[i + 1] = zs[i]
      · rw [he]
        exact ih (by omega)
      · refine ⟨i + 1, List.mem_filter.2 ⟨List.mem_range.2 hi, ?_⟩, get_arr zs _ hi⟩
        unfold Lib.keeps
        rw [decide_eq_true_iff]
        refine .inr ?_
        rw [get_arr zs _ hi, Nat.add_sub_cancel, get_arr zs i (by omega)]
        exact he
def vers (l : List S34) : List Int := Lib.compact ((l.map (·.f1)).mergeSort fun x y => decide (x ≤ y))
theorem vers_asc (l : List S34) : (vers l).Pairwise (· < ·) := by
  refine compact_asc _ ?_
  have := List.pairwise_mergeSort (le := fun x y : Int => decide (x ≤ y)) (fun a b c h1 h2 => by simp at *; omega) (fun a b => by simp; omega) (l.map (·.f1))
  simpa using this
theorem vers_mem (l : List S34) (x : Int) : x ∈ vers l ↔ x ∈ l.map (·.f1) := by
  unfold vers
  rw [compact_mem]
  exact (List.mergeSort_perm _ _).mem_iff
theorem vers_eq {l : List S34} {r : List Int} (hr : r.Pairwise (· < ·)) (hm : ∀ x, x ∈ r ↔ x ∈ l.map (·.f1)) : vers l = r :=
  asc_uniq _ _ (vers_asc l) hr (fun x => (vers_mem l x).trans (hm x).symm)

theorem versions_loop (l : List S34) (hl : l.length < 17592186044416) : ∀ (xs : List S34) (i : Nat) (acc : List Int), l.drop i = xs → i ≤ l.length → acc.length = i →
    Ev (fun k => timeline_versions.l0 k acc l (l.length : Int) (i : Int)) (Lib.compact ((acc ++ xs.map (·.f1)).mergeSort fun x y => decide (x ≤ y))) := by
  intro xs
  induction xs with
  | nil =>
    intro i acc hd hil ha
    have hn := drop_nil hd
    refine Ev.succ ?_
    have h1 : slices_Sort_int_int.f acc = some (acc.mergeSort fun x y => decide (x ≤ y)) := by
      unfold slices_Sort_int_int.f
      rw [if_pos (by omega)]
    have h2 : slices_Compact_int_int.f (acc.mergeSort fun x y => decide (x ≤ y)) = some (Lib.compact (acc.mergeSort fun x y => decide (x ≤ y))) := by
      unfold slices_Compact_int_int.f
      rw [if_pos (by rw [List.length_mergeSort]; omega)]
    simp only [timeline_versions.l0, not_lt_cast hn, if_false, h1, h2, Option.bind_some, List.map_nil, List.append_nil]
    exact Ev.now _
  | cons x xs ih =>
    intro i acc hd hil ha
    obtain ⟨hi, hx, hd⟩ := drop_cons hd
    have e2 := wrap_succ (i := i) (by omega)
    have hlt : acc.length < 17592186044416 := by omega
    refine Ev.succ ?_
    simp only [timeline_versions.l0, lt_cast hi, zero_le_cast, rd34 hx, if_true, hlt, e2]
    refine ev_eq (ih (i + 1) (acc ++ [x.f1]) hd (by omega) (by simp [ha])) ?_
    simp
theorem versions_ev (l : List S34) (hl : l.length < 17592186044416) : Ev (fun k => timeline_versions.f k l) (vers l) := by
  unfold timeline_versions.f
  exact versions_loop l hl l 0 [] rfl (Nat.zero_le _) rfl

/-- The first of the segments that are open at a time. -/
def openFrom (l : List S34) (closed : Int) : Nat := max (l.countP (fun s => decide (s.f0 ≤ mn closed 1099511627776 + 1))) 1 - 1
theorem open_ev {l : List S34} (h : right l = true) (hl : l.length < 17592186044416) (c : Int) (hc : -9223372036854775808 ≤ c) : Ev (fun k => timeline_Open.f k l c) (vers (l.drop (openFrom l c))) := by
  cases l with
  | nil => cases h
  | cons p xs =>
    obtain ⟨p0, _, _, hch⟩ := right_cons h
    have hm : -9223372036854775808 ≤ mn c 1099511627776 ∧ mn c 1099511627776 ≤ 1099511627776 := by unfold mn; split <;> omega
    have ew : wrap64 (mn c 1099511627776 + 1) = mn c 1099511627776 + 1 := wrap_id (by omega) (by omega)
    have hb := behind_eq (t := mn c 1099511627776 + 1) hch (by omega)
    have hcl := count_le (p :: xs) (mn c 1099511627776 + 1)
    have e1 : wrap64 (mx (((p :: xs).countP (fun s => decide (s.f0 ≤ mn c 1099511627776 + 1)) : Nat) : Int) 1 - 1) = ((openFrom (p :: xs) c : Nat) : Int) := by
      unfold openFrom
      have : ∀ n : Nat, n ≤ (p :: xs).length → wrap64 (mx (n : Int) 1 - 1) = ((max n 1 - 1 : Nat) : Int) := by
        intro n hn
        unfold mx
        split
        · rw [wrap_id (by omega) (by omega)]; omega
        · rw [wrap_id (by omega) (by omega)]; omega
      exact this _ hcl
    have hof : openFrom (p :: xs) c ≤ (p :: xs).length := by unfold openFrom; omega
    have hle : (((openFrom (p :: xs) c : Nat) : Int) ≤ ((p :: xs).length : Int)) = True := eq_true (by omega)
    unfold timeline_Open.f
    simp only [ew, hb, Option.bind_some, e1, zero_le_cast, hle, if_true, Int.toNat_natCast]
    exact Ev.bind (versions_ev _ (by rw [List.length_drop]; omega)) (Ev.now _)

/-! ### equal lists of numbers -/
theorem sameInts_loop (a b : List Int) (hl : a.length < 4611686018427387904) (he : a.length = b.length) : ∀ (xs ys : List Int) (i : Nat), a.drop i = xs → b.drop i = ys →
    Ev (fun k => errataref45_SameInts.l0 k a b (i : Int)) (xs == ys) := by
  intro xs
  induction xs with
  | nil =>
    intro ys i hd hd'
    have hn := drop_nil hd
    obtain rfl : ys = [] := by rw [← hd']; exact List.drop_of_length_le (by omega)
    refine Ev.succ ?_
    simp only [errataref45_SameInts.l0, not_lt_cast hn, if_false]
    exact Ev.now _
  | cons x xs ih =>
    intro ys i hd hd'
    obtain ⟨hi, hx, hda⟩ := drop_cons hd
    cases ys with
    | nil => have := drop_nil hd'; omega
    | cons y ys =>
      obtain ⟨hi', hy, hdb⟩ := drop_cons hd'
      have e2 := wrap_succ (i := i) (by omega)
      refine Ev.succ ?_
      simp only [errataref45_SameInts.l0, lt_cast hi, lt_cast hi', zero_le_cast, rdI hx, rdI hy, if_true, e2]
      by_cases h0 : x = y
      · subst h0
        simp only [if_true]
        refine ev_eq (ih ys (i + 1) hda hdb) ?_
        simp
      · simp only [h0, if_false]
        refine Ev.none_k ?_
        simp [h0]
theorem sameInts_ev (a b : List Int) (hl : a.length < 4611686018427387904) : Ev (fun k => errataref45_SameInts.f k a b) (a == b) := by
  unfold errataref45_SameInts.f
  by_cases he : a.length = b.length
  · have h : ((a.length : Int) = (b.length : Int)) = True := eq_true (by omega)
    simp only [h, if_true]
    exact sameInts_loop a b hl he a b 0 rfl rfl
  · have h : ((a.length : Int) = (b.length : Int)) = False := eq_false (by omega)
    simp only [h, if_false]
    refine Ev.none_k ?_
    rw [show (a == b) = false from by rw [beq_eq_false_iff_ne]; exact fun e => he (congrArg List.length e)]

/-! ### the examples -/
theorem small_ev : Ev (fun k => erratalaw45_small.f k) true := by
  have r1 : right [⟨0, 1⟩] = true := by decide
  have r2 : right [⟨0, 1⟩, ⟨50, 2⟩] = true := by decide
  have r3 : right [⟨0, 1⟩, ⟨50, 2⟩, ⟨80, 1⟩] = true := by decide
  have p1 : Ev (fun k => timeline_Replace.f k [⟨0, 1⟩] 50 2) ([⟨0, 1⟩, ⟨50, 2⟩], 0) := replace_ev r1 (by simp) (by omega) (by omega) (by omega) (by omega)
  have p2 : Ev (fun k => timeline_Replace.f k [⟨0, 1⟩, ⟨50, 2⟩] 20 3) ([⟨0, 1⟩, ⟨20, 3⟩], 0) := replace_ev r2 (by simp) (by omega) (by omega) (by omega) (by omega)
  have p3 : Ev (fun k => timeline_Replace.f k [⟨0, 1⟩, ⟨50, 2⟩] 80 1) ([⟨0, 1⟩, ⟨50, 2⟩, ⟨80, 1⟩], 0) := replace_ev r2 (by simp) (by omega) (by omega) (by omega) (by omega)
  have o1 : Ev (fun k => timeline_Open.f k [⟨0, 1⟩, ⟨50, 2⟩, ⟨80, 1⟩] 60) [1, 2] := by
    refine ev_eq (open_ev r3 (by simp) 60 (by omega)) (vers_eq (by decide) (fun x => ?_))
    rw [show openFrom [⟨0, 1⟩, ⟨50, 2⟩, ⟨80, 1⟩] 60 = 1 from by decide]
    simp
    omega
  have o2 : Ev (fun k => timeline_Open.f k [⟨0, 1⟩, ⟨50, 2⟩, ⟨80, 1⟩] 79) [1] := by
    refine ev_eq (open_ev r3 (by simp) 79 (by omega)) (vers_eq (by decide) (fun x => ?_))
    rw [show openFrom [⟨0, 1⟩, ⟨50, 2⟩, ⟨80, 1⟩] 79 = 2 from by decide]
    simp
  unfold erratalaw45_small.f
  simp only [erratalaw45_begun.f, Option.bind_some]
  refine Ev.bind p1 ?_
  simp only [if_true]
  refine Ev.bind (right_ev _ (by simp)) ?_
  rw [r2]
  refine Ev.succ ?_
  simp only [erratalaw45_small.j0, Bool.not_true, Bool.false_eq_true, if_false]
  refine Ev.bind p2 (Ev.bind p3 ?_)
  simp only [if_true]
  refine Ev.bind (right_ev _ (by simp)) ?_
  rw [r3]
  refine Ev.succ ?_
  simp only [erratalaw45_small.j1, Bool.not_true, Bool.false_eq_true, if_false]
  refine Ev.bind (same_ev _ _ (by simp)) ?_
  rw [eqL_refl]
  simp only [if_true]
  refine Ev.bind (same_ev _ _ (by simp)) ?_
  rw [eqL_refl]
  refine Ev.succ ?_
  simp only [erratalaw45_small.j2, if_true]
  refine Ev.bind o1 (Ev.bind (sameInts_ev _ _ (by simp)) ?_)
  simp only [beq_self_eq_true, if_true]
  refine Ev.bind o2 (Ev.bind (sameInts_ev _ _ (by simp)) ?_)
  simp only [beq_self_eq_true, if_true, at_right r3 (show (3 : Nat) < 4611686018427387904 by omega), Option.bind_some]
  refine Ev.none_k ?_
  decide
end Go.Proofs.Ytkaheioacolemaa.XT
