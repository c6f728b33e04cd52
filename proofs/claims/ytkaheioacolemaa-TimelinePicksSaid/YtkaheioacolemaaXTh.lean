import Derived.Test.YtkaheioacolemaaXTx0
import Derived.Test.YtkaheioacolemaaShelf
import Derived.Sort.OwnSortedInts
namespace Go.Proofs.Ytkaheioacolemaa.XT
open Go.RowKit Go.Proofs.YtkaheioacolemaaW.PrintWords Go.Proofs.YtkaheioacolemaaW.PrintLast Go.Proofs.YtkaheioacolemaaW.PrintMore
set_option linter.unusedVariables false

/-- A flat row of whole numbers that is one's own. -/
theorem R_int_own {w : World} {base : Nat} {ok : Nat → Prop} {v : Value} {l : List Int} (h : Kd.R (Kd.int .i64) 3 w base ok v l) : w.ownsRow base 3 1 v l.length (l.map (Value.int .i64)) := by
  obtain ⟨_, inner, ho, hr⟩ := h
  have e : inner = l.map (Value.int .i64) := by
    apply List.ext_getElem?
    intro j
    rcases Nat.lt_or_ge j l.length with hj | hj
    · have := hr.2 j _ (List.getElem?_eq_getElem hj)
      have hs : (Kd.int .i64).sz = 1 := rfl
      rw [hs, Nat.mul_one] at this
      have h1 : (inner.drop j).take 1 = [Value.int .i64 l[j]] := this
      have h2 := congrArg (fun t => t[0]?) h1
      simp only [List.getElem?_take, List.getElem?_drop] at h2
      simpa [List.getElem?_eq_getElem hj] using h2
    · have hl := hr.1
      have hs : (Kd.int .i64).sz = 1 := rfl
      rw [hs, Nat.mul_one] at hl
      rw [List.getElem?_eq_none (by omega), List.getElem?_eq_none (by simpa using hj)]
  rw [← e]
  exact ho
theorem R_int_of_own {w : World} {base : Nat} {ok : Nat → Prop} {v : Value} {l : List Int} (h : w.ownsRow base 3 1 v l.length (l.map (Value.int .i64))) (hok : ∀ k, v.ownBlock = some k → ok k) : Kd.R (Kd.int .i64) 3 w base ok v l := by
  refine ⟨hok, _, h, ?_, fun j p hj => ?_⟩
  · rw [List.length_map]
    exact (Nat.mul_one _).symm
  · show ((l.map (Value.int .i64)).drop (j * 1)).take 1 = [Value.int .i64 p]
    rw [Nat.mul_one]
    obtain ⟨hlt, rfl⟩ := List.getElem?_eq_some_iff.1 hj
    rw [List.drop_eq_getElem_cons (by simpa using hlt)]
    simp

def slices_Sort_int_int.f (l0 : List Int) : Option (List Int) := if l0.length < 4611686018427387904 then some (l0.mergeSort fun x y => decide (x ≤ y)) else none
theorem slices_Sort_int_int.calls (P0_ : Nat → Prop) (u9000_ : Value) (l0 : List Int) (r : List Int) (w0 w : World) (hB : Below w0.heap.size w0 w) (ho0 : Kd.R (Kd.int .i64) 3 w w0.heap.size P0_ u9000_ l0) (h : slices_Sort_int_int.f l0 = some r) :
    Calls Try.prog 37 #[u9000_] w fun e w' => e = .returned (.tuple #[]) ∧ Kd.R (Kd.int .i64) 3 w' w0.heap.size (fun k_ => (P0_ k_ ∨ w.heap.size ≤ k_)) u9000_ r ∧ Below w0.heap.size w0 w' ∧ Kept w w' (fun k_ => P0_ k_) := by
  unfold slices_Sort_int_int.f at h
  split at h
  · rename_i hlen
    obtain rfl := Option.some.inj h
    clear h
    have hown := R_int_own ho0
    rcases hown.2 with ⟨rfl, h0⟩ | ⟨g, cap, cur, rfl, hbase, hb, h1, h2, h3, h4⟩
    · obtain rfl := List.eq_nil_of_length_eq_zero h0
      refine (Try.slices_Sort_int_none none 0 w).mono ?_
      rintro e w' ⟨rfl, rfl⟩
      exact ⟨rfl, by simpa using Kd.R_nil _ _ _ _ _, hB, Kept.refl _ _⟩
    · have hH := Go.holds_of_blockI hb (by simpa using h4)
      refine (Try.slices_Sort_int g 0 cap l0 w hH (Array.getElem?_eq_some_iff.1 hb).1 hlen).mono ?_
      rintro e w' ⟨rfl, n, os, rfl⟩
      have hg := Go.grownBy_sortedI (w := w) (g := g) (n := n) (os := os) (l0.mergeSort fun x y => decide (x ≤ y)).toArray
      have hP : P0_ g := ho0.1 g rfl
      refine ⟨rfl, R_int_of_own ?_ (fun k hk => .inl (ho0.1 k hk)), hB.grown hg hB.size (by intro k hk; cases hk; exact hbase), Kept.of_grown hg (Kept.refl _ _) (by intro k hk; cases hk; exact .inl hP)⟩
      have := Go.ownsRow_sortedI (w := w) (base := w0.heap.size) (n := n) (os := os) (ts := l0.mergeSort fun x y => decide (x ≤ y)) (by simp) hbase hb h1 h2 h3
      rw [List.length_mergeSort]
      exact this
  · cases h

def slices_Compact_int_int.f (l0 : List Int) : Option (List Int) := if l0.length < 4611686018427387904 then some (Lib.compact l0) else none
theorem slices_Compact_int_int.calls (P0_ : Nat → Prop) (u9000_ : Value) (l0 : List Int) (r : List Int) (w0 w : World) (hB : Below w0.heap.size w0 w) (ho0 : Kd.R (Kd.int .i64) 3 w w0.heap.size P0_ u9000_ l0) (h : slices_Compact_int_int.f l0 = some r) :
    Calls Try.prog 38 #[u9000_] w fun e w' => ∃ v0_ : Value, e = .returned (v0_) ∧ Kd.R (Kd.int .i64) 3 w' w0.heap.size (fun k_ => (P0_ k_ ∨ w.heap.size ≤ k_)) v0_ r ∧ Below w0.heap.size w0 w' ∧ Kept w w' (fun k_ => P0_ k_) := by
  unfold slices_Compact_int_int.f at h
  split at h
  · rename_i hlen
    obtain rfl := Option.some.inj h
    clear h
    have hown := R_int_own ho0
    rcases hown.2 with ⟨rfl, h0⟩ | ⟨g, cap, cur, rfl, hbase, hb, h1, h2, h3, h4⟩
    · obtain rfl := List.eq_nil_of_length_eq_zero h0
      refine (Try.slices_Compact_int_empty none 0 w).mono ?_
      rintro e w' ⟨rfl, rfl⟩
      exact ⟨_, rfl, by rw [show Lib.compact ([] : List Int) = [] from rfl]; exact Kd.R_nil _ _ _ _ _, hB, Kept.refl _ _⟩
    · have hH := Go.holds_of_blockI hb (by simpa using h4)
      refine (Try.slices_Compact_int g 0 cap l0 w hH (by omega) h1).mono ?_
      rintro e w' ⟨rfl, n, rfl⟩
      have hg := Go.grownBy_sortedI (w := w) (g := g) (n := n) (os := #[]) (Lib.compact l0 ++ List.replicate (l0.length - (Lib.compact l0).length) 0).toArray
      rw [Go.Sort.grow_empty] at hg
      have hP : P0_ g := ho0.1 g rfl
      have hcl : (Lib.compact l0).length ≤ l0.length := by
        unfold Lib.compact Lib.compactUpTo
        rw [List.length_map]
        refine Nat.le_trans (List.length_filter_le _ _) ?_
        rw [List.length_range]
        exact Nat.le_refl _
      refine ⟨_, rfl, R_int_of_own ?_ (fun k hk => by simp [Value.ownBlock] at hk; subst hk; exact .inl hP), hB.grown hg hB.size (by intro k hk; cases hk; exact hbase), Kept.of_grown hg (Kept.refl _ _) (by intro k hk; cases hk; exact .inl hP)⟩
      have := Go.ownsRow_sortedI (w := w) (base := w0.heap.size) (n := n) (os := #[]) (ts := Lib.compact l0 ++ List.replicate (l0.length - (Lib.compact l0).length) 0) (by rw [List.length_append, List.length_replicate]; omega) hbase hb h1 h2 h3
      rw [Go.Sort.grow_empty] at this
      have h5 := Go.Proofs.YtkaheioacolemaaW.PrintWords.own_take this hcl
      simpa using h5
  · cases h
end Go.Proofs.Ytkaheioacolemaa.XT
