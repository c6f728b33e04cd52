-- Written by wip/tools/xp.sh, a program of this session, over the translation; not trusted: Lean checks it.
import Derived.Test.YtkaheioacolemaaXTx0
import Derived.Test.YtkaheioacolemaaXTx2
import Derived.Test.YtkaheioacolemaaXTx3
import Derived.Test.YtkaheioacolemaaXTx4
import Derived.Test.YtkaheioacolemaaXTx6
import Derived.Test.YtkaheioacolemaaXTx7
import Derived.Test.YtkaheioacolemaaXTx12
import Derived.Test.YtkaheioacolemaaXTx13
import Derived.Test.YtkaheioacolemaaGt
import Derived.Test.YtkaheioacolemaaXTg
import Derived.Test.YtkaheioacolemaaXTh
namespace Go.Proofs.Ytkaheioacolemaa.XT
open Go.RowKit Go.Proofs.YtkaheioacolemaaW.PrintWords Go.Proofs.YtkaheioacolemaaW.PrintLast Go.Proofs.YtkaheioacolemaaW.PrintMore
attribute [local go_sem] max2_int min2_int max_two min_two max_three min_three max_four min_four   -- for this text's walks alone
set_option linter.unusedVariables false
set_option linter.unusedSimpArgs false

attribute [local go_sem] Go.Proofs.Ytkaheioacolemaa.B.str_gtr
/-! ### erratalaw45_TimelineTells: function 6 -/
mutual
def erratalaw45_TimelineTells.j0 : Nat → List (S34) → List (S34) → Int → Int → List (S49) → Bool → Bool → Option (Bool)
  | 0, _, _, _, _, _, _, _ => none
  | k + 1, x0, x1, x2, x3, x4, x11, x25 => if x25 = true then (some x11) else ((timeline_Right.f k x0).bind fun t352 => ((errataref45_Right.f k x0).bind fun t353 => (if (t352 != t353) = true then (erratalaw45_TimelineTells.j1 k x0 x2 x3 x4 x11 true) else ((timeline_Same.f k x0 x1).bind fun t354 => ((errataref45_Same.f k x0 x1).bind fun t355 => (erratalaw45_TimelineTells.j1 k x0 x2 x3 x4 x11 (t354 != t355)))))))
def erratalaw45_TimelineTells.j1 : Nat → List (S34) → Int → Int → List (S49) → Bool → Bool → Option (Bool)
  | 0, _, _, _, _, _, _ => none
  | k + 1, x0, x2, x3, x4, x11, x40 => if x40 = true then (some false) else ((errataref45_Right.f k x0).bind fun t356 => (if t356 = true then ((timeline_Replace.f k x0 x2 x3).bind fun bt357 => ((errataref45_Replace.f k x0 x2 x3).bind fun bt361 => (if bt357.2 = bt361.2 then ((errataref45_Same.f k bt357.1 bt361.1).bind fun t365 => (if t365 = true then ((timeline_At.f x0 x2).bind fun t366 => ((errataref45_At.f k x0 x2).bind fun t367 => (erratalaw45_TimelineTells.j2 k x0 x2 x3 x4 x11 (t366 != t367)))) else (erratalaw45_TimelineTells.j2 k x0 x2 x3 x4 x11 true))) else (erratalaw45_TimelineTells.j2 k x0 x2 x3 x4 x11 true)))) else (some x11)))
def erratalaw45_TimelineTells.j2 : Nat → List (S34) → Int → Int → List (S49) → Bool → Bool → Option (Bool)
  | 0, _, _, _, _, _, _ => none
  | k + 1, x0, x2, x3, x4, x11, x76 => if x76 = true then (some false) else ((timeline_Versions.f k x0).bind fun t368 => ((errataref45_Versions.f k x0 (-1)).bind fun t371 => ((errataref45_SameInts.f k t368 t371).bind fun t374 => (if t374 = true then ((timeline_Open.f k x0 x2).bind fun t375 => ((errataref45_Versions.f k x0 x2).bind fun t378 => ((errataref45_SameInts.f k t375 t378).bind fun t381 => (erratalaw45_TimelineTells.j3 k x0 x3 x4 x11 (!t381))))) else (erratalaw45_TimelineTells.j3 k x0 x3 x4 x11 true)))))
def erratalaw45_TimelineTells.j3 : Nat → List (S34) → Int → List (S49) → Bool → Bool → Option (Bool)
  | 0, _, _, _, _, _ => none
  | k + 1, x0, x3, x4, x11, x92 => if x92 = true then (some false) else (if x11 = true then ((timeline_Spans.f k x0 x3).bind fun t382 => ((errataref45_Spans.f k x0 x3).bind fun t385 => ((errataref45_Same.f k t382 t385).bind fun t388 => (if t388 = true then ((timeline_Pick.f k x0 x3 x4).bind fun t389 => ((errataref45_Pick.f k x0 x3 x4).bind fun t392 => ((errataref45_SameDeltas.f k t389 t392).bind fun t395 => (some t395)))) else (some false))))) else (some false))
end
def erratalaw45_TimelineTells.f (k : Nat) (l0 : List (S34)) (l1 : List (S34)) (a2 : Int) (a3 : Int) (l4 : List (S49)) : Option (Bool) := (erratalaw45_small.f k).bind fun t350 => ((erratalaw45_few.f k l0 l4).bind fun t351 => (if t351 = true then (erratalaw45_TimelineTells.j0 k l0 l1 a2 a3 l4 t350 (decide ((l1.length : Int) > 60))) else (erratalaw45_TimelineTells.j0 k l0 l1 a2 a3 l4 t350 true)))
theorem erratalaw45_TimelineTells.mono_l : ∀ k, (∀ y0 y1 y2 y3 y4 y5 y6, LeO (erratalaw45_TimelineTells.j0 k y0 y1 y2 y3 y4 y5 y6) (erratalaw45_TimelineTells.j0 (k + 1) y0 y1 y2 y3 y4 y5 y6)) ∧ (∀ y0 y1 y2 y3 y4 y5, LeO (erratalaw45_TimelineTells.j1 k y0 y1 y2 y3 y4 y5) (erratalaw45_TimelineTells.j1 (k + 1) y0 y1 y2 y3 y4 y5)) ∧ (∀ y0 y1 y2 y3 y4 y5, LeO (erratalaw45_TimelineTells.j2 k y0 y1 y2 y3 y4 y5) (erratalaw45_TimelineTells.j2 (k + 1) y0 y1 y2 y3 y4 y5)) ∧ (∀ y0 y1 y2 y3 y4, LeO (erratalaw45_TimelineTells.j3 k y0 y1 y2 y3 y4) (erratalaw45_TimelineTells.j3 (k + 1) y0 y1 y2 y3 y4))
  | 0 => ⟨fun _ _ _ _ _ _ _ r h => by simp [erratalaw45_TimelineTells.j0] at h, fun _ _ _ _ _ _ r h => by simp [erratalaw45_TimelineTells.j1] at h, fun _ _ _ _ _ _ r h => by simp [erratalaw45_TimelineTells.j2] at h, fun _ _ _ _ _ r h => by simp [erratalaw45_TimelineTells.j3] at h⟩
  | k + 1 => by
    obtain ⟨ih0, ih1, ih2, ih3⟩ := erratalaw45_TimelineTells.mono_l k
    refine ⟨?_, ?_, ?_, ?_⟩
    · intro y0 y1 y2 y3 y4 y5 y6
      unfold erratalaw45_TimelineTells.j0
      repeat' first
      | (with_reducible exact ih0 _ _ _ _ _ _ _)
      | (with_reducible exact ih1 _ _ _ _ _ _)
      | (with_reducible exact ih2 _ _ _ _ _ _)
      | (with_reducible exact ih3 _ _ _ _ _)
      | (with_reducible exact erratalaw45_few.mono _ _ _)
      | (with_reducible exact erratalaw45_small.mono _)
      | (with_reducible exact errataref45_At.mono _ _ _)
      | (with_reducible exact errataref45_Pick.mono _ _ _ _)
      | (with_reducible exact errataref45_Replace.mono _ _ _ _)
      | (with_reducible exact errataref45_Right.mono _ _)
      | (with_reducible exact errataref45_Same.mono _ _ _)
      | (with_reducible exact errataref45_SameDeltas.mono _ _ _)
      | (with_reducible exact errataref45_SameInts.mono _ _ _)
      | (with_reducible exact errataref45_Spans.mono _ _ _)
      | (with_reducible exact errataref45_Versions.mono _ _ _)
      | (with_reducible exact timeline_Open.mono _ _ _)
      | (with_reducible exact timeline_Pick.mono _ _ _ _)
      | (with_reducible exact timeline_Replace.mono _ _ _ _)
      | (with_reducible exact timeline_Right.mono _ _)
      | (with_reducible exact timeline_Same.mono _ _ _)
      | (with_reducible exact timeline_Spans.mono _ _ _)
      | (with_reducible exact timeline_Versions.mono _ _)
      | (with_reducible exact LeO.refl _)
      | (with_reducible exact LeO.none _)
      | (with_reducible refine LeO.ite ?_ ?_)
      | (with_reducible refine LeO.bind ?_ (fun _ => ?_))
      | exact ih0 _ _ _ _ _ _ _
      | exact ih1 _ _ _ _ _ _
      | exact ih2 _ _ _ _ _ _
      | exact ih3 _ _ _ _ _
      | exact erratalaw45_few.mono _ _ _
      | exact erratalaw45_small.mono _
      | exact errataref45_At.mono _ _ _
      | exact errataref45_Pick.mono _ _ _ _
      | exact errataref45_Replace.mono _ _ _ _
      | exact errataref45_Right.mono _ _
      | exact errataref45_Same.mono _ _ _
      | exact errataref45_SameDeltas.mono _ _ _
      | exact errataref45_SameInts.mono _ _ _
      | exact errataref45_Spans.mono _ _ _
      | exact errataref45_Versions.mono _ _ _
      | exact timeline_Open.mono _ _ _
      | exact timeline_Pick.mono _ _ _ _
      | exact timeline_Replace.mono _ _ _ _
      | exact timeline_Right.mono _ _
      | exact timeline_Same.mono _ _ _
      | exact timeline_Spans.mono _ _ _
      | exact timeline_Versions.mono _ _
      | exact LeO.none _
      | refine LeO.ite ?_ ?_
      | refine LeO.bind ?_ (fun _ => ?_)
    · intro y0 y1 y2 y3 y4 y5
      unfold erratalaw45_TimelineTells.j1
      repeat' first
      | (with_reducible exact ih0 _ _ _ _ _ _ _)
      | (with_reducible exact ih1 _ _ _ _ _ _)
      | (with_reducible exact ih2 _ _ _ _ _ _)
      | (with_reducible exact ih3 _ _ _ _ _)
      | (with_reducible exact erratalaw45_few.mono _ _ _)
      | (with_reducible exact erratalaw45_small.mono _)
      | (with_reducible exact errataref45_At.mono _ _ _)
      | (with_reducible exact errataref45_Pick.mono _ _ _ _)
      | (with_reducible exact errataref45_Replace.mono _ _ _ _)
      | (with_reducible exact errataref45_Right.mono _ _)
      | (with_reducible exact errataref45_Same.mono _ _ _)
      | (with_reducible exact errataref45_SameDeltas.mono _ _ _)
      | (with_reducible exact errataref45_SameInts.mono _ _ _)
      | (with_reducible exact errataref45_Spans.mono _ _ _)
      | (with_reducible exact errataref45_Versions.mono _ _ _)
      | (with_reducible exact timeline_Open.mono _ _ _)
      | (with_reducible exact timeline_Pick.mono _ _ _ _)
      | (with_reducible exact timeline_Replace.mono _ _ _ _)
      | (with_reducible exact timeline_Right.mono _ _)
      | (with_reducible exact timeline_Same.mono _ _ _)
      | (with_reducible exact timeline_Spans.mono _ _ _)
      | (with_reducible exact timeline_Versions.mono _ _)
      | (with_reducible exact LeO.refl _)
      | (with_reducible exact LeO.none _)
      | (with_reducible refine LeO.ite ?_ ?_)
      | (with_reducible refine LeO.bind ?_ (fun _ => ?_))
      | exact ih0 _ _ _ _ _ _ _
      | exact ih1 _ _ _ _ _ _
      | exact ih2 _ _ _ _ _ _
      | exact ih3 _ _ _ _ _
      | exact erratalaw45_few.mono _ _ _
      | exact erratalaw45_small.mono _
      | exact errataref45_At.mono _ _ _
      | exact errataref45_Pick.mono _ _ _ _
      | exact errataref45_Replace.mono _ _ _ _
      | exact errataref45_Right.mono _ _
      | exact errataref45_Same.mono _ _ _
      | exact errataref45_SameDeltas.mono _ _ _
      | exact errataref45_SameInts.mono _ _ _
      | exact errataref45_Spans.mono _ _ _
      | exact errataref45_Versions.mono _ _ _
      | exact timeline_Open.mono _ _ _
      | exact timeline_Pick.mono _ _ _ _
      | exact timeline_Replace.mono _ _ _ _
      | exact timeline_Right.mono _ _
      | exact timeline_Same.mono _ _ _
      | exact timeline_Spans.mono _ _ _
      | exact timeline_Versions.mono _ _
      | exact LeO.none _
      | refine LeO.ite ?_ ?_
      | refine LeO.bind ?_ (fun _ => ?_)
    · intro y0 y1 y2 y3 y4 y5
      unfold erratalaw45_TimelineTells.j2
      repeat' first
      | (with_reducible exact ih0 _ _ _ _ _ _ _)
      | (with_reducible exact ih1 _ _ _ _ _ _)
      | (with_reducible exact ih2 _ _ _ _ _ _)
      | (with_reducible exact ih3 _ _ _ _ _)
      | (with_reducible exact erratalaw45_few.mono _ _ _)
      | (with_reducible exact erratalaw45_small.mono _)
      | (with_reducible exact errataref45_At.mono _ _ _)
      | (with_reducible exact errataref45_Pick.mono _ _ _ _)
      | (with_reducible exact errataref45_Replace.mono _ _ _ _)
      | (with_reducible exact errataref45_Right.mono _ _)
      | (with_reducible exact errataref45_Same.mono _ _ _)
      | (with_reducible exact errataref45_SameDeltas.mono _ _ _)
      | (with_reducible exact errataref45_SameInts.mono _ _ _)
      | (with_reducible exact errataref45_Spans.mono _ _ _)
      | (with_reducible exact errataref45_Versions.mono _ _ _)
      | (with_reducible exact timeline_Open.mono _ _ _)
      | (with_reducible exact timeline_Pick.mono _ _ _ _)
      | (with_reducible exact timeline_Replace.mono _ _ _ _)
      | (with_reducible exact timeline_Right.mono _ _)
      | (with_reducible exact timeline_Same.mono _ _ _)
      | (with_reducible exact timeline_Spans.mono _ _ _)
      | (with_reducible exact timeline_Versions.mono _ _)
      | (with_reducible exact LeO.refl _)
      | (with_reducible exact LeO.none _)
      | (with_reducible refine LeO.ite ?_ ?_)
      | (with_reducible refine LeO.bind ?_ (fun _ => ?_))
      | exact ih0 _ _ _ _ _ _ _
      | exact ih1 _ _ _ _ _ _
      | exact ih2 _ _ _ _ _ _
      | exact ih3 _ _ _ _ _
      | exact erratalaw45_few.mono _ _ _
      | exact erratalaw45_small.mono _
      | exact errataref45_At.mono _ _ _
      | exact errataref45_Pick.mono _ _ _ _
      | exact errataref45_Replace.mono _ _ _ _
      | exact errataref45_Right.mono _ _
      | exact errataref45_Same.mono _ _ _
      | exact errataref45_SameDeltas.mono _ _ _
      | exact errataref45_SameInts.mono _ _ _
      | exact errataref45_Spans.mono _ _ _
      | exact errataref45_Versions.mono _ _ _
      | exact timeline_Open.mono _ _ _
      | exact timeline_Pick.mono _ _ _ _
      | exact timeline_Replace.mono _ _ _ _
      | exact timeline_Right.mono _ _
      | exact timeline_Same.mono _ _ _
      | exact timeline_Spans.mono _ _ _
      | exact timeline_Versions.mono _ _
      | exact LeO.none _
      | refine LeO.ite ?_ ?_
      | refine LeO.bind ?_ (fun _ => ?_)
    · intro y0 y1 y2 y3 y4
      unfold erratalaw45_TimelineTells.j3
      repeat' first
      | (with_reducible exact ih0 _ _ _ _ _ _ _)
      | (with_reducible exact ih1 _ _ _ _ _ _)
      | (with_reducible exact ih2 _ _ _ _ _ _)
      | (with_reducible exact ih3 _ _ _ _ _)
      | (with_reducible exact erratalaw45_few.mono _ _ _)
      | (with_reducible exact erratalaw45_small.mono _)
      | (with_reducible exact errataref45_At.mono _ _ _)
      | (with_reducible exact errataref45_Pick.mono _ _ _ _)
      | (with_reducible exact errataref45_Replace.mono _ _ _ _)
      | (with_reducible exact errataref45_Right.mono _ _)
      | (with_reducible exact errataref45_Same.mono _ _ _)
      | (with_reducible exact errataref45_SameDeltas.mono _ _ _)
      | (with_reducible exact errataref45_SameInts.mono _ _ _)
      | (with_reducible exact errataref45_Spans.mono _ _ _)
      | (with_reducible exact errataref45_Versions.mono _ _ _)
      | (with_reducible exact timeline_Open.mono _ _ _)
      | (with_reducible exact timeline_Pick.mono _ _ _ _)
      | (with_reducible exact timeline_Replace.mono _ _ _ _)
      | (with_reducible exact timeline_Right.mono _ _)
      | (with_reducible exact timeline_Same.mono _ _ _)
      | (with_reducible exact timeline_Spans.mono _ _ _)
      | (with_reducible exact timeline_Versions.mono _ _)
      | (with_reducible exact LeO.refl _)
      | (with_reducible exact LeO.none _)
      | (with_reducible refine LeO.ite ?_ ?_)
      | (with_reducible refine LeO.bind ?_ (fun _ => ?_))
      | exact ih0 _ _ _ _ _ _ _
      | exact ih1 _ _ _ _ _ _
      | exact ih2 _ _ _ _ _ _
      | exact ih3 _ _ _ _ _
      | exact erratalaw45_few.mono _ _ _
      | exact erratalaw45_small.mono _
      | exact errataref45_At.mono _ _ _
      | exact errataref45_Pick.mono _ _ _ _
      | exact errataref45_Replace.mono _ _ _ _
      | exact errataref45_Right.mono _ _
      | exact errataref45_Same.mono _ _ _
      | exact errataref45_SameDeltas.mono _ _ _
      | exact errataref45_SameInts.mono _ _ _
      | exact errataref45_Spans.mono _ _ _
      | exact errataref45_Versions.mono _ _ _
      | exact timeline_Open.mono _ _ _
      | exact timeline_Pick.mono _ _ _ _
      | exact timeline_Replace.mono _ _ _ _
      | exact timeline_Right.mono _ _
      | exact timeline_Same.mono _ _ _
      | exact timeline_Spans.mono _ _ _
      | exact timeline_Versions.mono _ _
      | exact LeO.none _
      | refine LeO.ite ?_ ?_
      | refine LeO.bind ?_ (fun _ => ?_)
theorem erratalaw45_TimelineTells.mono : ∀ a0 a1 a2 a3 a4 k, LeO (erratalaw45_TimelineTells.f k a0 a1 a2 a3 a4) (erratalaw45_TimelineTells.f (k + 1) a0 a1 a2 a3 a4) := by
  intro a0 a1 a2 a3 a4 k
  obtain ⟨ih0, ih1, ih2, ih3⟩ := erratalaw45_TimelineTells.mono_l k
  unfold erratalaw45_TimelineTells.f
  repeat' first
      | (with_reducible exact ih0 _ _ _ _ _ _ _)
      | (with_reducible exact ih1 _ _ _ _ _ _)
      | (with_reducible exact ih2 _ _ _ _ _ _)
      | (with_reducible exact ih3 _ _ _ _ _)
      | (with_reducible exact erratalaw45_few.mono _ _ _)
      | (with_reducible exact erratalaw45_small.mono _)
      | (with_reducible exact errataref45_At.mono _ _ _)
      | (with_reducible exact errataref45_Pick.mono _ _ _ _)
      | (with_reducible exact errataref45_Replace.mono _ _ _ _)
      | (with_reducible exact errataref45_Right.mono _ _)
      | (with_reducible exact errataref45_Same.mono _ _ _)
      | (with_reducible exact errataref45_SameDeltas.mono _ _ _)
      | (with_reducible exact errataref45_SameInts.mono _ _ _)
      | (with_reducible exact errataref45_Spans.mono _ _ _)
      | (with_reducible exact errataref45_Versions.mono _ _ _)
      | (with_reducible exact timeline_Open.mono _ _ _)
      | (with_reducible exact timeline_Pick.mono _ _ _ _)
      | (with_reducible exact timeline_Replace.mono _ _ _ _)
      | (with_reducible exact timeline_Right.mono _ _)
      | (with_reducible exact timeline_Same.mono _ _ _)
      | (with_reducible exact timeline_Spans.mono _ _ _)
      | (with_reducible exact timeline_Versions.mono _ _)
      | (with_reducible exact LeO.refl _)
      | (with_reducible exact LeO.none _)
      | (with_reducible refine LeO.ite ?_ ?_)
      | (with_reducible refine LeO.bind ?_ (fun _ => ?_))
      | exact ih0 _ _ _ _ _ _ _
      | exact ih1 _ _ _ _ _ _
      | exact ih2 _ _ _ _ _ _
      | exact ih3 _ _ _ _ _
      | exact erratalaw45_few.mono _ _ _
      | exact erratalaw45_small.mono _
      | exact errataref45_At.mono _ _ _
      | exact errataref45_Pick.mono _ _ _ _
      | exact errataref45_Replace.mono _ _ _ _
      | exact errataref45_Right.mono _ _
      | exact errataref45_Same.mono _ _ _
      | exact errataref45_SameDeltas.mono _ _ _
      | exact errataref45_SameInts.mono _ _ _
      | exact errataref45_Spans.mono _ _ _
      | exact errataref45_Versions.mono _ _ _
      | exact timeline_Open.mono _ _ _
      | exact timeline_Pick.mono _ _ _ _
      | exact timeline_Replace.mono _ _ _ _
      | exact timeline_Right.mono _ _
      | exact timeline_Same.mono _ _ _
      | exact timeline_Spans.mono _ _ _
      | exact timeline_Versions.mono _ _
      | exact LeO.none _
      | refine LeO.ite ?_ ?_
      | refine LeO.bind ?_ (fun _ => ?_)
set_option maxHeartbeats 8000000 in
set_option maxRecDepth 100000 in
theorem erratalaw45_TimelineTells.calls (k : Nat) (A0 : Option Addr) (c0 : Nat) (l0 : List (S34)) (A1 : Option Addr) (c1 : Nat) (l1 : List (S34)) (a2 : Int) (a3 : Int) (A4 : Option Addr) (c4 : Nat) (l4 : List (S49)) (r : Bool) (w : World) (hr0 : Kd.C k34 w A0 l0.length l0) (hc0 : l0.length ≤ c0) (hr1 : Kd.C k34 w A1 l1.length l1) (hc1 : l1.length ≤ c1) (hr4 : Kd.C k49 w A4 l4.length l4) (hc4 : l4.length ≤ c4) (h : erratalaw45_TimelineTells.f k l0 l1 a2 a3 l4 = some r) :
    Calls Try.prog 6 #[.slice A0 l0.length c0, .slice A1 l1.length c1, .int .i64 a2, .int .i64 a3, .slice A4 l4.length c4] w fun e w' => e = .returned (.bool r) ∧ Below w.heap.size w w' := by
  have HR0 := Aside0.mk hr0
  have HC0 := Aside0.mk hc0
  clear hr0 hc0
  have HR1 := Aside0.mk hr1
  have HC1 := Aside0.mk hc1
  clear hr1 hc1
  have HR4 := Aside0.mk hr4
  have HC4 := Aside0.mk hc4
  clear hr4 hc4
  have HB := Aside0.mk (Below.refl w.heap.size w)
  have H : ((erratalaw45_small.f k).bind fun t350 => ((erratalaw45_few.f k l0 l4).bind fun t351 => (if t351 = true then (erratalaw45_TimelineTells.j0 k l0 l1 a2 a3 l4 t350 (decide ((l1.length : Int) > 60))) else (erratalaw45_TimelineTells.j0 k l0 l1 a2 a3 l4 t350 true)))) = some r := h
  clear h
  replace H := Option.bind_eq_some_iff.mp H
  obtain ⟨t350, A60, H⟩ := H
  replace H : ((erratalaw45_few.f k l0 l4).bind fun t351 => (if t351 = true then (erratalaw45_TimelineTells.j0 k l0 l1 a2 a3 l4 t350 (decide ((l1.length : Int) > 60))) else (erratalaw45_TimelineTells.j0 k l0 l1 a2 a3 l4 t350 true))) = some r := H
  have A6 := Aside0.mk A60
  clear A60
  have HC7 := Aside0.mk H
  clear H
  go_enter Try.func6, Try.ntmps6
  go_upto_region 2 with (first | ((with_reducible refine gate_callee (f := 8) rfl ?_); refine goesL_ (some 16) rfl rfl Try.func8 (by kernel_rfl) rfl #[] rfl (by (try simp only [List.map_toArray, List.map_cons, List.map_nil]); first | done | rfl | (simp only [List.length_drop, List.length_take]; rfl)) ?_; (with_reducible refine (erratalaw45_small.calls k  t350 _ A6.out).mono ?_); rintro e w8 ⟨rfl, hb⟩; refine ⟨_, rfl, ?_⟩; have n0_ := Aside0.mk (below_step (by repeat (first | (with_reducible first | exact HB.out | apply below_alloc | apply pw_below_drewN | apply below_drew1) | exact HB.out)) hb); clear HB; have HB := n0_; clear n0_; (try clear hb); (try clear hb2); (try clear hk); (try clear hi)))
  (try simp only [Act.put, List.setIfInBounds_toArray, List.set_cons_zero, List.set_cons_succ])
  go_cut [25] (fun v25 wc => ∃ (kq : Nat) (x25_6 : Bool), v25 = .bool x25_6 ∧ Aside0 (erratalaw45_TimelineTells.j0 kq l0 l1 a2 a3 l4 t350 x25_6 = some r) ∧ Aside0 (kq ≤ k) ∧ Aside0 (Below w.heap.size w wc))
  case first =>
    have H := HC7.out
    clear HC7
    replace H := Option.bind_eq_some_iff.mp H
    obtain ⟨t351, A90, H⟩ := H
    replace H : (if t351 = true then (erratalaw45_TimelineTells.j0 k l0 l1 a2 a3 l4 t350 (decide ((l1.length : Int) > 60))) else (erratalaw45_TimelineTells.j0 k l0 l1 a2 a3 l4 t350 true)) = some r := H
    have A9 := Aside0.mk A90
    clear A90
    by_cases c10 : t351 = true
    · subst c10
      have H1 : (erratalaw45_TimelineTells.j0 k l0 l1 a2 a3 l4 t350 (decide ((l1.length : Int) > 60))) = some r := by rw [if_pos rfl] at H; exact H
      clear H
      have H := H1
      clear H1
      have H' := Aside0.mk H
      clear H
      go_wp2_with (first | ((with_reducible refine gate_callee (f := 15) rfl ?_); refine goesL_ (some 19) rfl rfl Try.func15 (by kernel_rfl) rfl #[.slice A0 l0.length c0, .slice A4 l4.length c4] rfl (by (try simp only [List.map_toArray, List.map_cons, List.map_nil]); first | done | rfl | (simp only [List.length_drop, List.length_take]; rfl)) ?_; (with_reducible refine (erratalaw45_few.calls k _ _ l0 _ _ l4 true _ ?side1 ?side2 ?side3 ?side4 A9.out).mono ?_); (case side1 => repeat (first | exact (Kd.C_below HR0.out HB.out) | (with_reducible refine Kd.C_alloc ?_ _) | (with_reducible refine Kd.C_drewN ?_ _) | (with_reducible refine Kd.C_drew ?_))); (case side2 => exact HC0.out); (case side3 => repeat (first | exact (Kd.C_below HR4.out HB.out) | (with_reducible refine Kd.C_alloc ?_ _) | (with_reducible refine Kd.C_drewN ?_ _) | (with_reducible refine Kd.C_drew ?_))); (case side4 => exact HC4.out); rintro e w' ⟨rfl, ⟨nd, rfl⟩⟩; refine ⟨_, rfl, ?_⟩))
      go_meet
      case rel => exact ⟨_, (decide ((l1.length : Int) > 60)), (by first | rfl | (simp; done) | (simp [*]; done)), H', ⟨by first | omega | exact Nat.le_refl _⟩, ⟨by repeat (first | (with_reducible first | exact HB.out | apply below_alloc | apply pw_below_drewN | apply below_drew1) | exact HB.out)⟩⟩
    · replace c10 := Bool.eq_false_iff.mpr c10
      subst c10
      have H1 : (erratalaw45_TimelineTells.j0 k l0 l1 a2 a3 l4 t350 true) = some r := by rw [if_neg (show ¬ (false = true) by decide)] at H; exact H
      clear H
      have H := H1
      clear H1
      have H' := Aside0.mk H
      clear H
      go_wp2_with (first | ((with_reducible refine gate_callee (f := 15) rfl ?_); refine goesL_ (some 19) rfl rfl Try.func15 (by kernel_rfl) rfl #[.slice A0 l0.length c0, .slice A4 l4.length c4] rfl (by (try simp only [List.map_toArray, List.map_cons, List.map_nil]); first | done | rfl | (simp only [List.length_drop, List.length_take]; rfl)) ?_; (with_reducible refine (erratalaw45_few.calls k _ _ l0 _ _ l4 false _ ?side1 ?side2 ?side3 ?side4 A9.out).mono ?_); (case side1 => repeat (first | exact (Kd.C_below HR0.out HB.out) | (with_reducible refine Kd.C_alloc ?_ _) | (with_reducible refine Kd.C_drewN ?_ _) | (with_reducible refine Kd.C_drew ?_))); (case side2 => exact HC0.out); (case side3 => repeat (first | exact (Kd.C_below HR4.out HB.out) | (with_reducible refine Kd.C_alloc ?_ _) | (with_reducible refine Kd.C_drewN ?_ _) | (with_reducible refine Kd.C_drew ?_))); (case side4 => exact HC4.out); rintro e w' ⟨rfl, ⟨nd, rfl⟩⟩; refine ⟨_, rfl, ?_⟩))
      go_meet
      case rel => exact ⟨_, (true), (by first | rfl | (simp; done) | (simp [*]; done)), H', ⟨by first | omega | exact Nat.le_refl _⟩, ⟨by repeat (first | (with_reducible first | exact HB.out | apply below_alloc | apply pw_below_drewN | apply below_drew1) | exact HB.out)⟩⟩
  case rest =>
    clear HC7
    try clear c1
    try clear p2
    try clear c4
    try clear c6
    try clear c8
    try clear c10
    obtain ⟨kq, x25_6, rfl, HA, HJ6, HB⟩ := hcut
    cases kq with
    | zero => exact absurd HA.out (by simp [erratalaw45_TimelineTells.j0])
    | succ kj6 =>
      have H := HA.out
      clear HA
      simp only [erratalaw45_TimelineTells.j0] at H
      by_cases c11 : x25_6 = true
      · subst c11
        have H1 : (some t350) = some r := by rw [if_pos rfl] at H; exact H
        clear H
        have H := H1
        clear H1
        obtain rfl := Option.some.inj H
        go_wp2
        go_ret
        exact ⟨by first | rfl | (simp [errW_none, errW_some] <;> rfl) | (simp [*, errW_none, errW_some] <;> rfl), by repeat (first | (with_reducible first | exact HB.out | apply below_alloc | apply pw_below_drewN | apply below_drew1) | exact HB.out)⟩
      · replace c11 := Bool.eq_false_iff.mpr c11
        subst c11
        have H1 : ((timeline_Right.f kj6 l0).bind fun t352 => ((errataref45_Right.f kj6 l0).bind fun t353 => (if (t352 != t353) = true then (erratalaw45_TimelineTells.j1 kj6 l0 a2 a3 l4 t350 true) else ((timeline_Same.f kj6 l0 l1).bind fun t354 => ((errataref45_Same.f kj6 l0 l1).bind fun t355 => (erratalaw45_TimelineTells.j1 kj6 l0 a2 a3 l4 t350 (t354 != t355))))))) = some r := by rw [if_neg (show ¬ (false = true) by decide)] at H; exact H
        clear H
        have H := H1
        clear H1
        have HC12 := Aside0.mk H
        clear H
        go_upto_region 4 with (fail)
        go_cut [40] (fun v40 wc => ∃ (kq : Nat) (x40_11 : Bool), v40 = .bool x40_11 ∧ Aside0 (erratalaw45_TimelineTells.j1 kq l0 a2 a3 l4 t350 x40_11 = some r) ∧ Aside0 (kq ≤ kj6) ∧ Aside0 (Below w.heap.size w wc))
        case first =>
          have H := HC12.out
          clear HC12
          replace H := Option.bind_eq_some_iff.mp H
          obtain ⟨t352, A130, H⟩ := H
          replace H : ((errataref45_Right.f kj6 l0).bind fun t353 => (if (t352 != t353) = true then (erratalaw45_TimelineTells.j1 kj6 l0 a2 a3 l4 t350 true) else ((timeline_Same.f kj6 l0 l1).bind fun t354 => ((errataref45_Same.f kj6 l0 l1).bind fun t355 => (erratalaw45_TimelineTells.j1 kj6 l0 a2 a3 l4 t350 (t354 != t355)))))) = some r := H
          have A13 := Aside0.mk A130
          clear A130
          replace H := Option.bind_eq_some_iff.mp H
          obtain ⟨t353, A140, H⟩ := H
          replace H : (if (t352 != t353) = true then (erratalaw45_TimelineTells.j1 kj6 l0 a2 a3 l4 t350 true) else ((timeline_Same.f kj6 l0 l1).bind fun t354 => ((errataref45_Same.f kj6 l0 l1).bind fun t355 => (erratalaw45_TimelineTells.j1 kj6 l0 a2 a3 l4 t350 (t354 != t355))))) = some r := H
          have A14 := Aside0.mk A140
          clear A140
          by_cases c15 : (t352 != t353) = true
          · rw [if_pos c15] at H
            have c15b0 : (t352 != t353) = true := c15
            (try (have c15b1 : decide (t352 = t353) = false := by simpa using c15))
            (try (have c15b2 : (t352 == t353) = false := by simpa using c15))
            (try (have c15b3 : ¬ (t352 = t353) := by simpa using c15))
            clear c15
            (first | rw [c15b0] | (simp only [i64_w, i32_w]; rw [c15b0]) | skip)
            have H' := Aside0.mk H
            clear H
            go_wp2_with (first | ((with_reducible refine gate_callee (f := 11) rfl ?_); refine goesL_ (some 28) rfl rfl Try.func11 (by kernel_rfl) rfl #[.slice A0 l0.length c0] rfl (by (try simp only [List.map_toArray, List.map_cons, List.map_nil]); first | done | rfl | (simp only [List.length_drop, List.length_take]; rfl)) ?_; (with_reducible refine (timeline_Right.calls kj6 _ _ l0 t352 _ ?side1 ?side2 A13.out).mono ?_); (case side1 => repeat (first | exact (Kd.C_below HR0.out HB.out) | (with_reducible refine Kd.C_alloc ?_ _) | (with_reducible refine Kd.C_drewN ?_ _) | (with_reducible refine Kd.C_drew ?_))); (case side2 => exact HC0.out); rintro e w16 ⟨rfl, hb⟩; refine ⟨_, rfl, ?_⟩; have n0_ := Aside0.mk (below_step (by repeat (first | (with_reducible first | exact HB.out | apply below_alloc | apply pw_below_drewN | apply below_drew1) | exact HB.out)) hb); clear HB; have HB := n0_; clear n0_; (try clear hb); (try clear hb2); (try clear hk); (try clear hi)) | ((with_reducible refine gate_callee (f := 16) rfl ?_); refine goesL_ (some 30) rfl rfl Try.func16 (by kernel_rfl) rfl #[.slice A0 l0.length c0] rfl (by (try simp only [List.map_toArray, List.map_cons, List.map_nil]); first | done | rfl | (simp only [List.length_drop, List.length_take]; rfl)) ?_; (with_reducible refine (errataref45_Right.calls kj6 _ _ l0 t353 _ ?side1 ?side2 A14.out).mono ?_); (case side1 => repeat (first | exact (Kd.C_below HR0.out HB.out) | (with_reducible refine Kd.C_alloc ?_ _) | (with_reducible refine Kd.C_drewN ?_ _) | (with_reducible refine Kd.C_drew ?_))); (case side2 => exact HC0.out); rintro e w17 ⟨rfl, hb⟩; refine ⟨_, rfl, ?_⟩; have n0_ := Aside0.mk (below_step (by repeat (first | (with_reducible first | exact HB.out | apply below_alloc | apply pw_below_drewN | apply below_drew1) | exact HB.out)) hb); clear HB; have HB := n0_; clear n0_; (try clear hb); (try clear hb2); (try clear hk); (try clear hi)))
            go_meet
            case rel => exact ⟨_, (true), (by first | rfl | (simp; done) | (simp [*]; done)), H', ⟨by have := HJ6.out; first | omega | exact Nat.le_refl _⟩, ⟨by repeat (first | (with_reducible first | exact HB.out | apply below_alloc | apply pw_below_drewN | apply below_drew1) | exact HB.out)⟩⟩
          · rw [if_neg c15] at H
            have c15b0 : (t352 != t353) = false := by simpa using c15
            (try (have c15b1 : decide (t352 = t353) = true := by simpa using c15))
            (try (have c15b2 : (t352 == t353) = true := by simpa using c15))
            clear c15
            (first | rw [c15b0] | (simp only [i64_w, i32_w]; rw [c15b0]) | skip)
            replace H := Option.bind_eq_some_iff.mp H
            obtain ⟨t354, A180, H⟩ := H
            replace H : ((errataref45_Same.f kj6 l0 l1).bind fun t355 => (erratalaw45_TimelineTells.j1 kj6 l0 a2 a3 l4 t350 (t354 != t355))) = some r := H
            have A18 := Aside0.mk A180
            clear A180
            replace H := Option.bind_eq_some_iff.mp H
            obtain ⟨t355, A190, H⟩ := H
            replace H : (erratalaw45_TimelineTells.j1 kj6 l0 a2 a3 l4 t350 (t354 != t355)) = some r := H
            have A19 := Aside0.mk A190
            clear A190
            have H' := Aside0.mk H
            clear H
            go_wp2_with (first | ((with_reducible refine gate_callee (f := 11) rfl ?_); refine goesL_ (some 28) rfl rfl Try.func11 (by kernel_rfl) rfl #[.slice A0 l0.length c0] rfl (by (try simp only [List.map_toArray, List.map_cons, List.map_nil]); first | done | rfl | (simp only [List.length_drop, List.length_take]; rfl)) ?_; (with_reducible refine (timeline_Right.calls kj6 _ _ l0 t352 _ ?side1 ?side2 A13.out).mono ?_); (case side1 => repeat (first | exact (Kd.C_below HR0.out HB.out) | (with_reducible refine Kd.C_alloc ?_ _) | (with_reducible refine Kd.C_drewN ?_ _) | (with_reducible refine Kd.C_drew ?_))); (case side2 => exact HC0.out); rintro e w20 ⟨rfl, hb⟩; refine ⟨_, rfl, ?_⟩; have n0_ := Aside0.mk (below_step (by repeat (first | (with_reducible first | exact HB.out | apply below_alloc | apply pw_below_drewN | apply below_drew1) | exact HB.out)) hb); clear HB; have HB := n0_; clear n0_; (try clear hb); (try clear hb2); (try clear hk); (try clear hi)) | ((with_reducible refine gate_callee (f := 16) rfl ?_); refine goesL_ (some 30) rfl rfl Try.func16 (by kernel_rfl) rfl #[.slice A0 l0.length c0] rfl (by (try simp only [List.map_toArray, List.map_cons, List.map_nil]); first | done | rfl | (simp only [List.length_drop, List.length_take]; rfl)) ?_; (with_reducible refine (errataref45_Right.calls kj6 _ _ l0 t353 _ ?side1 ?side2 A14.out).mono ?_); (case side1 => repeat (first | exact (Kd.C_below HR0.out HB.out) | (with_reducible refine Kd.C_alloc ?_ _) | (with_reducible refine Kd.C_drewN ?_ _) | (with_reducible refine Kd.C_drew ?_))); (case side2 => exact HC0.out); rintro e w21 ⟨rfl, hb⟩; refine ⟨_, rfl, ?_⟩; have n0_ := Aside0.mk (below_step (by repeat (first | (with_reducible first | exact HB.out | apply below_alloc | apply pw_below_drewN | apply below_drew1) | exact HB.out)) hb); clear HB; have HB := n0_; clear n0_; (try clear hb); (try clear hb2); (try clear hk); (try clear hi)) | (go_at_call 13; (with_reducible refine (timeline_Same.calls kj6 _ _ l0 _ _ l1 t354 _ ?side1 ?side2 ?side3 ?side4 A18.out).mono ?_); (case side1 => repeat (first | exact (Kd.C_below HR0.out HB.out) | (with_reducible refine Kd.C_alloc ?_ _) | (with_reducible refine Kd.C_drewN ?_ _) | (with_reducible refine Kd.C_drew ?_))); (case side2 => exact HC0.out); (case side3 => repeat (first | exact (Kd.C_below HR1.out HB.out) | (with_reducible refine Kd.C_alloc ?_ _) | (with_reducible refine Kd.C_drewN ?_ _) | (with_reducible refine Kd.C_drew ?_))); (case side4 => exact HC1.out); rintro e w' ⟨rfl, ⟨nd, rfl⟩⟩) | (go_at_call 17; (with_reducible refine (errataref45_Same.calls kj6 _ _ l0 _ _ l1 t355 _ ?side1 ?side2 ?side3 ?side4 A19.out).mono ?_); (case side1 => repeat (first | exact (Kd.C_below HR0.out (by repeat (first | (with_reducible first | exact HB.out | apply below_alloc | apply pw_below_drewN | apply below_drew1) | exact HB.out))) | (with_reducible refine Kd.C_alloc ?_ _) | (with_reducible refine Kd.C_drewN ?_ _) | (with_reducible refine Kd.C_drew ?_))); (case side2 => exact HC0.out); (case side3 => repeat (first | exact (Kd.C_below HR1.out (by repeat (first | (with_reducible first | exact HB.out | apply below_alloc | apply pw_below_drewN | apply below_drew1) | exact HB.out))) | (with_reducible refine Kd.C_alloc ?_ _) | (with_reducible refine Kd.C_drewN ?_ _) | (with_reducible refine Kd.C_drew ?_))); (case side4 => exact HC1.out); rintro e w' ⟨rfl, ⟨nd, rfl⟩⟩))
            go_meet
            case rel => exact ⟨_, ((t354 != t355)), (by first | rfl | (simp; done) | (simp [*]; done)), H', ⟨by have := HJ6.out; first | omega | exact Nat.le_refl _⟩, ⟨by repeat (first | (with_reducible first | exact HB.out | apply below_alloc | apply pw_below_drewN | apply below_drew1) | exact HB.out)⟩⟩
        case rest =>
          clear HC12
          try clear c1
          try clear p2
          try clear c4
          try clear c6
          try clear c8
          try clear c10
          try clear c11
          try clear c15
          try clear c15b0
          try clear c15b1
          try clear c15b2
          try clear c16
          try clear p2
          obtain ⟨kq, x40_11, rfl, HA, HJ11, HB⟩ := hcut
          cases kq with
          | zero => exact absurd HA.out (by simp [erratalaw45_TimelineTells.j1])
          | succ kj11 =>
            have H := HA.out
            clear HA
            simp only [erratalaw45_TimelineTells.j1] at H
            by_cases c22 : x40_11 = true
            · subst c22
              have H1 : (some false) = some r := by rw [if_pos rfl] at H; exact H
              clear H
              have H := H1
              clear H1
              obtain rfl := Option.some.inj H
              go_wp2
              go_ret
              exact ⟨by first | rfl | (simp [errW_none, errW_some] <;> rfl) | (simp [*, errW_none, errW_some] <;> rfl), by repeat (first | (with_reducible first | exact HB.out | apply below_alloc | apply pw_below_drewN | apply below_drew1) | exact HB.out)⟩
            · replace c22 := Bool.eq_false_iff.mpr c22
              subst c22
              have H1 : ((errataref45_Right.f kj11 l0).bind fun t356 => (if t356 = true then ((timeline_Replace.f kj11 l0 a2 a3).bind fun bt357 => ((errataref45_Replace.f kj11 l0 a2 a3).bind fun bt361 => (if bt357.2 = bt361.2 then ((errataref45_Same.f kj11 bt357.1 bt361.1).bind fun t365 => (if t365 = true then ((timeline_At.f l0 a2).bind fun t366 => ((errataref45_At.f kj11 l0 a2).bind fun t367 => (erratalaw45_TimelineTells.j2 kj11 l0 a2 a3 l4 t350 (t366 != t367)))) else (erratalaw45_TimelineTells.j2 kj11 l0 a2 a3 l4 t350 true))) else (erratalaw45_TimelineTells.j2 kj11 l0 a2 a3 l4 t350 true)))) else (some t350))) = some r := by rw [if_neg (show ¬ (false = true) by decide)] at H; exact H
              clear H
              have H := H1
              clear H1
              replace H := Option.bind_eq_some_iff.mp H
              obtain ⟨t356, A230, H⟩ := H
              replace H : (if t356 = true then ((timeline_Replace.f kj11 l0 a2 a3).bind fun bt357 => ((errataref45_Replace.f kj11 l0 a2 a3).bind fun bt361 => (if bt357.2 = bt361.2 then ((errataref45_Same.f kj11 bt357.1 bt361.1).bind fun t365 => (if t365 = true then ((timeline_At.f l0 a2).bind fun t366 => ((errataref45_At.f kj11 l0 a2).bind fun t367 => (erratalaw45_TimelineTells.j2 kj11 l0 a2 a3 l4 t350 (t366 != t367)))) else (erratalaw45_TimelineTells.j2 kj11 l0 a2 a3 l4 t350 true))) else (erratalaw45_TimelineTells.j2 kj11 l0 a2 a3 l4 t350 true)))) else (some t350)) = some r := H
              have A23 := Aside0.mk A230
              clear A230
              by_cases c24 : t356 = true
              · subst c24
                have H1 : ((timeline_Replace.f kj11 l0 a2 a3).bind fun bt357 => ((errataref45_Replace.f kj11 l0 a2 a3).bind fun bt361 => (if bt357.2 = bt361.2 then ((errataref45_Same.f kj11 bt357.1 bt361.1).bind fun t365 => (if t365 = true then ((timeline_At.f l0 a2).bind fun t366 => ((errataref45_At.f kj11 l0 a2).bind fun t367 => (erratalaw45_TimelineTells.j2 kj11 l0 a2 a3 l4 t350 (t366 != t367)))) else (erratalaw45_TimelineTells.j2 kj11 l0 a2 a3 l4 t350 true))) else (erratalaw45_TimelineTells.j2 kj11 l0 a2 a3 l4 t350 true)))) = some r := by rw [if_pos rfl] at H; exact H
                clear H
                have H := H1
                clear H1
                replace H := Option.bind_eq_some_iff.mp H
                obtain ⟨⟨t357, t358⟩, A250, H⟩ := H
                replace H : ((errataref45_Replace.f kj11 l0 a2 a3).bind fun bt361 => (if t358 = bt361.2 then ((errataref45_Same.f kj11 t357 bt361.1).bind fun t365 => (if t365 = true then ((timeline_At.f l0 a2).bind fun t366 => ((errataref45_At.f kj11 l0 a2).bind fun t367 => (erratalaw45_TimelineTells.j2 kj11 l0 a2 a3 l4 t350 (t366 != t367)))) else (erratalaw45_TimelineTells.j2 kj11 l0 a2 a3 l4 t350 true))) else (erratalaw45_TimelineTells.j2 kj11 l0 a2 a3 l4 t350 true))) = some r := H
                have A25 := Aside0.mk A250
                clear A250
                replace H := Option.bind_eq_some_iff.mp H
                obtain ⟨⟨t361, t362⟩, A260, H⟩ := H
                replace H : (if t358 = t362 then ((errataref45_Same.f kj11 t357 t361).bind fun t365 => (if t365 = true then ((timeline_At.f l0 a2).bind fun t366 => ((errataref45_At.f kj11 l0 a2).bind fun t367 => (erratalaw45_TimelineTells.j2 kj11 l0 a2 a3 l4 t350 (t366 != t367)))) else (erratalaw45_TimelineTells.j2 kj11 l0 a2 a3 l4 t350 true))) else (erratalaw45_TimelineTells.j2 kj11 l0 a2 a3 l4 t350 true)) = some r := H
                have A26 := Aside0.mk A260
                clear A260
                have HC27 := Aside0.mk H
                clear H
                go_upto_region 10 with (first | ((with_reducible refine gate_callee (f := 16) rfl ?_); refine goesL_ (some 42) rfl rfl Try.func16 (by kernel_rfl) rfl #[.slice A0 l0.length c0] rfl (by (try simp only [List.map_toArray, List.map_cons, List.map_nil]); first | done | rfl | (simp only [List.length_drop, List.length_take]; rfl)) ?_; (with_reducible refine (errataref45_Right.calls kj11 _ _ l0 true _ ?side1 ?side2 A23.out).mono ?_); (case side1 => repeat (first | exact (Kd.C_below HR0.out HB.out) | (with_reducible refine Kd.C_alloc ?_ _) | (with_reducible refine Kd.C_drewN ?_ _) | (with_reducible refine Kd.C_drew ?_))); (case side2 => exact HC0.out); rintro e w28 ⟨rfl, hb⟩; refine ⟨_, rfl, ?_⟩; have n0_ := Aside0.mk (below_step (by repeat (first | (with_reducible first | exact HB.out | apply below_alloc | apply pw_below_drewN | apply below_drew1) | exact HB.out)) hb); clear HB; have HB := n0_; clear n0_; (try clear hb); (try clear hb2); (try clear hk); (try clear hi)) | ((with_reducible refine gate_callee (f := 10) rfl ?_); refine goesL_ (some 49) rfl rfl Try.func10 (by kernel_rfl) rfl #[.slice A0 l0.length c0, .int .i64 a2, .int .i64 a3] rfl (by (try simp only [List.map_toArray, List.map_cons, List.map_nil]); first | done | rfl | (simp only [List.length_drop, List.length_take]; rfl)) ?_; (with_reducible refine (timeline_Replace.calls kj11 _ _ l0 a2 a3 t357 t358 _ ?side1 ?side2 A25.out).mono ?_); (case side1 => repeat (first | exact (Kd.C_below HR0.out HB.out) | (with_reducible refine Kd.C_alloc ?_ _) | (with_reducible refine Kd.C_drewN ?_ _) | (with_reducible refine Kd.C_drew ?_))); (case side2 => exact HC0.out); rintro e w29 ⟨v359, rfl, ho0, hb⟩; refine ⟨_, rfl, ?_⟩; have n0_ := Aside0.mk (Kd.R_lower ho0 (below_size (by repeat (first | (with_reducible first | exact HB.out | apply below_alloc | apply pw_below_drewN | apply below_drew1) | exact HB.out)))); have n1_ := Aside0.mk (below_step (by repeat (first | (with_reducible first | exact HB.out | apply below_alloc | apply pw_below_drewN | apply below_drew1) | exact HB.out)) hb); clear HB; have HO360 := n0_; have HB := n1_; clear n0_ n1_; (try clear hb); (try clear hb2); (try clear hk); (try clear hi); (try clear ho0)) | ((with_reducible refine gate_callee (f := 18) rfl ?_); refine goesL_ (some 56) rfl rfl Try.func18 (by kernel_rfl) rfl #[.slice A0 l0.length c0, .int .i64 a2, .int .i64 a3] rfl (by (try simp only [List.map_toArray, List.map_cons, List.map_nil]); first | done | rfl | (simp only [List.length_drop, List.length_take]; rfl)) ?_; (with_reducible refine (errataref45_Replace.calls kj11 _ _ l0 a2 a3 t361 t362 _ ?side1 ?side2 A26.out).mono ?_); (case side1 => repeat (first | exact (Kd.C_below HR0.out HB.out) | (with_reducible refine Kd.C_alloc ?_ _) | (with_reducible refine Kd.C_drewN ?_ _) | (with_reducible refine Kd.C_drew ?_))); (case side2 => exact HC0.out); rintro e w30 ⟨v363, rfl, ho0, hb⟩; refine ⟨_, rfl, ?_⟩; have n0_ := Aside0.mk (Kd.R_elder' (by (with_reducible repeat (first | apply Kd.R_alloc | apply Kd.R_drewN | apply Kd.R_drew)); exact HO360.out) (Kd.R_base ho0) hb); have n1_ := Aside0.mk (Kd.R_lower (Kd.R_new' ho0 (Kd.R_lt (by (with_reducible repeat (first | apply Kd.R_alloc | apply Kd.R_drewN | apply Kd.R_drew)); exact HO360.out))) (below_size (by repeat (first | (with_reducible first | exact HB.out | apply below_alloc | apply pw_below_drewN | apply below_drew1) | exact HB.out)))); have n2_ := Aside0.mk (below_step (by repeat (first | (with_reducible first | exact HB.out | apply below_alloc | apply pw_below_drewN | apply below_drew1) | exact HB.out)) hb); clear HO360; clear HB; have HO360 := n0_; have HO364 := n1_; have HB := n2_; clear n0_ n1_ n2_; (try clear hb); (try clear hb2); (try clear hk); (try clear hi); (try clear ho0)))
                (try simp only [Act.put, List.setIfInBounds_toArray, List.set_cons_zero, List.set_cons_succ])
                go_cut [76] (fun v76 wc => ∃ (kq : Nat) (x76_26 : Bool), v76 = .bool x76_26 ∧ Aside0 (erratalaw45_TimelineTells.j2 kq l0 a2 a3 l4 t350 x76_26 = some r) ∧ Aside0 (kq ≤ kj11) ∧ Aside0 (Below w.heap.size w wc))
                case first =>
                  have H := HC27.out
                  clear HC27
                  by_cases c31 : t358 = t362
                  · rw [if_pos c31] at H
                    have c31b0 : (t358 == t362) = true := beq_iff_eq.mpr c31
                    have c31b1 : (t358 != t362) = false := bne_eq_false_iff_eq.mpr c31
                    clear c31
                    (first | rw [c31b0] | (simp only [i64_w, i32_w]; rw [c31b0]) | skip)
                    replace H := Option.bind_eq_some_iff.mp H
                    obtain ⟨t365, A320, H⟩ := H
                    replace H : (if t365 = true then ((timeline_At.f l0 a2).bind fun t366 => ((errataref45_At.f kj11 l0 a2).bind fun t367 => (erratalaw45_TimelineTells.j2 kj11 l0 a2 a3 l4 t350 (t366 != t367)))) else (erratalaw45_TimelineTells.j2 kj11 l0 a2 a3 l4 t350 true)) = some r := H
                    have A32 := Aside0.mk A320
                    clear A320
                    by_cases c33 : t365 = true
                    · subst c33
                      have H1 : ((timeline_At.f l0 a2).bind fun t366 => ((errataref45_At.f kj11 l0 a2).bind fun t367 => (erratalaw45_TimelineTells.j2 kj11 l0 a2 a3 l4 t350 (t366 != t367)))) = some r := by rw [if_pos rfl] at H; exact H
                      clear H
                      have H := H1
                      clear H1
                      replace H := Option.bind_eq_some_iff.mp H
                      obtain ⟨t366, A340, H⟩ := H
                      replace H : ((errataref45_At.f kj11 l0 a2).bind fun t367 => (erratalaw45_TimelineTells.j2 kj11 l0 a2 a3 l4 t350 (t366 != t367))) = some r := H
                      have A34 := Aside0.mk A340
                      clear A340
                      replace H := Option.bind_eq_some_iff.mp H
                      obtain ⟨t367, A350, H⟩ := H
                      replace H : (erratalaw45_TimelineTells.j2 kj11 l0 a2 a3 l4 t350 (t366 != t367)) = some r := H
                      have A35 := Aside0.mk A350
                      clear A350
                      have H' := Aside0.mk H
                      clear H
                      obtain ⟨Ao36, co36, eo36⟩ := Kd.R_slice HO360.out
                      subst eo36
                      obtain ⟨Ao37, co37, eo37⟩ := Kd.R_slice HO364.out
                      subst eo37
                      go_wp2_with (first | (go_at_call 17; (with_reducible refine (errataref45_Same.calls kj11 _ _ t357 _ _ t361 true _ ?side1 ?side2 ?side3 ?side4 A32.out).mono ?_); (case side1 => repeat (first | exact (Kd.R_reads' HO360.out).2.2 | (with_reducible refine Kd.C_alloc ?_ _) | (with_reducible refine Kd.C_drewN ?_ _) | (with_reducible refine Kd.C_drew ?_))); (case side2 => exact (Kd.R_reads' HO360.out).2.1); (case side3 => repeat (first | exact (Kd.R_reads' HO364.out).2.2 | (with_reducible refine Kd.C_alloc ?_ _) | (with_reducible refine Kd.C_drewN ?_ _) | (with_reducible refine Kd.C_drew ?_))); (case side4 => exact (Kd.R_reads' HO364.out).2.1); rintro e w' ⟨rfl, ⟨nd, rfl⟩⟩) | (go_at_call 12; (with_reducible refine (timeline_At.calls _ _ l0 a2 t366 _ ?side1 ?side2 A34.out).mono ?_); (case side1 => repeat (first | exact (Kd.C_below HR0.out (by repeat (first | (with_reducible first | exact HB.out | apply below_alloc | apply pw_below_drewN | apply below_drew1) | exact HB.out))) | (with_reducible refine Kd.C_alloc ?_ _) | (with_reducible refine Kd.C_drewN ?_ _) | (with_reducible refine Kd.C_drew ?_))); (case side2 => exact HC0.out); rintro e w38 ⟨rfl, hb⟩; have n0_ := Aside0.mk (Kd.R_below (by (with_reducible repeat (first | apply Kd.R_alloc | apply Kd.R_drewN | apply Kd.R_drew)); exact HO360.out) hb); have n1_ := Aside0.mk (Kd.R_below (by (with_reducible repeat (first | apply Kd.R_alloc | apply Kd.R_drewN | apply Kd.R_drew)); exact HO364.out) hb); have n2_ := Aside0.mk (below_step (by repeat (first | (with_reducible first | exact HB.out | apply below_alloc | apply pw_below_drewN | apply below_drew1) | exact HB.out)) hb); clear HO360; clear HO364; clear HB; have HO360 := n0_; have HO364 := n1_; have HB := n2_; clear n0_ n1_ n2_; (try clear hb); (try clear hb2); (try clear hk); (try clear hi)) | (go_at_call 19; (with_reducible refine (errataref45_At.calls kj11 _ _ l0 a2 t367 _ ?side1 ?side2 A35.out).mono ?_); (case side1 => repeat (first | exact (Kd.C_below HR0.out HB.out) | (with_reducible refine Kd.C_alloc ?_ _) | (with_reducible refine Kd.C_drewN ?_ _) | (with_reducible refine Kd.C_drew ?_))); (case side2 => exact HC0.out); rintro e w' ⟨rfl, ⟨nd, rfl⟩⟩))
                      go_meet
                      case rel => exact ⟨_, ((t366 != t367)), (by first | rfl | (simp; done) | (simp [*]; done)), H', ⟨by have := HJ6.out; have := HJ11.out; first | omega | exact Nat.le_refl _⟩, ⟨by repeat (first | (with_reducible first | exact HB.out | apply below_alloc | apply pw_below_drewN | apply below_drew1) | exact HB.out)⟩⟩
                    · replace c33 := Bool.eq_false_iff.mpr c33
                      subst c33
                      have H1 : (erratalaw45_TimelineTells.j2 kj11 l0 a2 a3 l4 t350 true) = some r := by rw [if_neg (show ¬ (false = true) by decide)] at H; exact H
                      clear H
                      have H := H1
                      clear H1
                      have H' := Aside0.mk H
                      clear H
                      obtain ⟨Ao39, co39, eo39⟩ := Kd.R_slice HO360.out
                      subst eo39
                      obtain ⟨Ao40, co40, eo40⟩ := Kd.R_slice HO364.out
                      subst eo40
                      go_wp2_with (first | (go_at_call 17; (with_reducible refine (errataref45_Same.calls kj11 _ _ t357 _ _ t361 false _ ?side1 ?side2 ?side3 ?side4 A32.out).mono ?_); (case side1 => repeat (first | exact (Kd.R_reads' HO360.out).2.2 | (with_reducible refine Kd.C_alloc ?_ _) | (with_reducible refine Kd.C_drewN ?_ _) | (with_reducible refine Kd.C_drew ?_))); (case side2 => exact (Kd.R_reads' HO360.out).2.1); (case side3 => repeat (first | exact (Kd.R_reads' HO364.out).2.2 | (with_reducible refine Kd.C_alloc ?_ _) | (with_reducible refine Kd.C_drewN ?_ _) | (with_reducible refine Kd.C_drew ?_))); (case side4 => exact (Kd.R_reads' HO364.out).2.1); rintro e w' ⟨rfl, ⟨nd, rfl⟩⟩))
                      go_meet
                      case rel => exact ⟨_, (true), (by first | rfl | (simp; done) | (simp [*]; done)), H', ⟨by have := HJ6.out; have := HJ11.out; first | omega | exact Nat.le_refl _⟩, ⟨by repeat (first | (with_reducible first | exact HB.out | apply below_alloc | apply pw_below_drewN | apply below_drew1) | exact HB.out)⟩⟩
                  · rw [if_neg c31] at H
                    have c31b0 : (t358 == t362) = false := beq_eq_false_iff_ne.mpr c31
                    have c31b1 : (t358 != t362) = true := bne_iff_ne.mpr c31
                    (first | rw [c31b0] | (simp only [i64_w, i32_w]; rw [c31b0]) | skip)
                    have H' := Aside0.mk H
                    clear H
                    go_wp2
                    go_meet
                    case rel => exact ⟨_, (true), (by first | rfl | (simp; done) | (simp [*]; done)), H', ⟨by have := HJ6.out; have := HJ11.out; first | omega | exact Nat.le_refl _⟩, ⟨by repeat (first | (with_reducible first | exact HB.out | apply below_alloc | apply pw_below_drewN | apply below_drew1) | exact HB.out)⟩⟩
                case rest =>
                  clear HC27
                  try clear c1
                  try clear c2
                  try clear p2
                  try clear c3
                  try clear c4
                  try clear c6
                  try clear c8
                  try clear c10
                  try clear c11
                  try clear c15
                  try clear c15b0
                  try clear c15b1
                  try clear c15b2
                  try clear c16
                  try clear c18
                  try clear c22
                  try clear c24
                  try clear c31
                  try clear c31b0
                  try clear c31b1
                  try clear c33
                  try clear p2
                  obtain ⟨kq, x76_26, rfl, HA, HJ26, HB⟩ := hcut
                  cases kq with
                  | zero => exact absurd HA.out (by simp [erratalaw45_TimelineTells.j2])
                  | succ kj26 =>
                    have H := HA.out
                    clear HA
                    simp only [erratalaw45_TimelineTells.j2] at H
                    by_cases c41 : x76_26 = true
                    · subst c41
                      have H1 : (some false) = some r := by rw [if_pos rfl] at H; exact H
                      clear H
                      have H := H1
                      clear H1
                      obtain rfl := Option.some.inj H
                      go_wp2
                      go_ret
                      exact ⟨by first | rfl | (simp [errW_none, errW_some] <;> rfl) | (simp [*, errW_none, errW_some] <;> rfl), by repeat (first | (with_reducible first | exact HB.out | apply below_alloc | apply pw_below_drewN | apply below_drew1) | exact HB.out)⟩
                    · replace c41 := Bool.eq_false_iff.mpr c41
                      subst c41
                      have H1 : ((timeline_Versions.f kj26 l0).bind fun t368 => ((errataref45_Versions.f kj26 l0 (-1)).bind fun t371 => ((errataref45_SameInts.f kj26 t368 t371).bind fun t374 => (if t374 = true then ((timeline_Open.f kj26 l0 a2).bind fun t375 => ((errataref45_Versions.f kj26 l0 a2).bind fun t378 => ((errataref45_SameInts.f kj26 t375 t378).bind fun t381 => (erratalaw45_TimelineTells.j3 kj26 l0 a3 l4 t350 (!t381))))) else (erratalaw45_TimelineTells.j3 kj26 l0 a3 l4 t350 true))))) = some r := by rw [if_neg (show ¬ (false = true) by decide)] at H; exact H
                      clear H
                      have H := H1
                      clear H1
                      have HC42 := Aside0.mk H
                      clear H
                      go_upto_region 12 with (fail)
                      go_cut [92] (fun v92 wc => ∃ (kq : Nat) (x92_41 : Bool), v92 = .bool x92_41 ∧ Aside0 (erratalaw45_TimelineTells.j3 kq l0 a3 l4 t350 x92_41 = some r) ∧ Aside0 (kq ≤ kj26) ∧ Aside0 (Below w.heap.size w wc))
                      case first =>
                        have H := HC42.out
                        clear HC42
                        replace H := Option.bind_eq_some_iff.mp H
                        obtain ⟨t368, A430, H⟩ := H
                        replace H : ((errataref45_Versions.f kj26 l0 (-1)).bind fun t371 => ((errataref45_SameInts.f kj26 t368 t371).bind fun t374 => (if t374 = true then ((timeline_Open.f kj26 l0 a2).bind fun t375 => ((errataref45_Versions.f kj26 l0 a2).bind fun t378 => ((errataref45_SameInts.f kj26 t375 t378).bind fun t381 => (erratalaw45_TimelineTells.j3 kj26 l0 a3 l4 t350 (!t381))))) else (erratalaw45_TimelineTells.j3 kj26 l0 a3 l4 t350 true)))) = some r := H
                        have A43 := Aside0.mk A430
                        clear A430
                        replace H := Option.bind_eq_some_iff.mp H
                        obtain ⟨t371, A440, H⟩ := H
                        replace H : ((errataref45_SameInts.f kj26 t368 t371).bind fun t374 => (if t374 = true then ((timeline_Open.f kj26 l0 a2).bind fun t375 => ((errataref45_Versions.f kj26 l0 a2).bind fun t378 => ((errataref45_SameInts.f kj26 t375 t378).bind fun t381 => (erratalaw45_TimelineTells.j3 kj26 l0 a3 l4 t350 (!t381))))) else (erratalaw45_TimelineTells.j3 kj26 l0 a3 l4 t350 true))) = some r := H
                        have A44 := Aside0.mk A440
                        clear A440
                        replace H := Option.bind_eq_some_iff.mp H
                        obtain ⟨t374, A450, H⟩ := H
                        replace H : (if t374 = true then ((timeline_Open.f kj26 l0 a2).bind fun t375 => ((errataref45_Versions.f kj26 l0 a2).bind fun t378 => ((errataref45_SameInts.f kj26 t375 t378).bind fun t381 => (erratalaw45_TimelineTells.j3 kj26 l0 a3 l4 t350 (!t381))))) else (erratalaw45_TimelineTells.j3 kj26 l0 a3 l4 t350 true)) = some r := H
                        have A45 := Aside0.mk A450
                        clear A450
                        by_cases c46 : t374 = true
                        · subst c46
                          have H1 : ((timeline_Open.f kj26 l0 a2).bind fun t375 => ((errataref45_Versions.f kj26 l0 a2).bind fun t378 => ((errataref45_SameInts.f kj26 t375 t378).bind fun t381 => (erratalaw45_TimelineTells.j3 kj26 l0 a3 l4 t350 (!t381))))) = some r := by rw [if_pos rfl] at H; exact H
                          clear H
                          have H := H1
                          clear H1
                          replace H := Option.bind_eq_some_iff.mp H
                          obtain ⟨t375, A470, H⟩ := H
                          replace H : ((errataref45_Versions.f kj26 l0 a2).bind fun t378 => ((errataref45_SameInts.f kj26 t375 t378).bind fun t381 => (erratalaw45_TimelineTells.j3 kj26 l0 a3 l4 t350 (!t381)))) = some r := H
                          have A47 := Aside0.mk A470
                          clear A470
                          replace H := Option.bind_eq_some_iff.mp H
                          obtain ⟨t378, A480, H⟩ := H
                          replace H : ((errataref45_SameInts.f kj26 t375 t378).bind fun t381 => (erratalaw45_TimelineTells.j3 kj26 l0 a3 l4 t350 (!t381))) = some r := H
                          have A48 := Aside0.mk A480
                          clear A480
                          replace H := Option.bind_eq_some_iff.mp H
                          obtain ⟨t381, A490, H⟩ := H
                          replace H : (erratalaw45_TimelineTells.j3 kj26 l0 a3 l4 t350 (!t381)) = some r := H
                          have A49 := Aside0.mk A490
                          clear A490
                          have H' := Aside0.mk H
                          clear H
                          go_wp2_with (first | ((with_reducible refine gate_callee (f := 21) rfl ?_); refine goesL_ (some 78) rfl rfl Try.func21 (by kernel_rfl) rfl #[.slice A0 l0.length c0] rfl (by (try simp only [List.map_toArray, List.map_cons, List.map_nil]); first | done | rfl | (simp only [List.length_drop, List.length_take]; rfl)) ?_; (with_reducible refine (timeline_Versions.calls kj26 _ _ l0 t368 _ ?side1 ?side2 A43.out).mono ?_); (case side1 => repeat (first | exact (Kd.C_below HR0.out HB.out) | (with_reducible refine Kd.C_alloc ?_ _) | (with_reducible refine Kd.C_drewN ?_ _) | (with_reducible refine Kd.C_drew ?_))); (case side2 => exact HC0.out); rintro e w50 ⟨v369, rfl, ho0, hb⟩; refine ⟨_, rfl, ?_⟩; have n0_ := Aside0.mk (Kd.R_lower ho0 (below_size (by repeat (first | (with_reducible first | exact HB.out | apply below_alloc | apply pw_below_drewN | apply below_drew1) | exact HB.out)))); have n1_ := Aside0.mk (below_step (by repeat (first | (with_reducible first | exact HB.out | apply below_alloc | apply pw_below_drewN | apply below_drew1) | exact HB.out)) hb); clear HB; have HO370 := n0_; have HB := n1_; clear n0_ n1_; (try clear hb); (try clear hb2); (try clear hk); (try clear hi); (try clear ho0)) | ((with_reducible refine gate_callee (f := 22) rfl ?_); refine goesL_ (some 80) rfl rfl Try.func22 (by kernel_rfl) rfl #[.slice A0 l0.length c0, .int .i64 (-1)] rfl (by (try simp only [List.map_toArray, List.map_cons, List.map_nil]); first | done | rfl | (simp only [List.length_drop, List.length_take]; rfl)) ?_; (with_reducible refine (errataref45_Versions.calls kj26 _ _ l0 (-1) t371 _ ?side1 ?side2 A44.out).mono ?_); (case side1 => repeat (first | exact (Kd.C_below HR0.out HB.out) | (with_reducible refine Kd.C_alloc ?_ _) | (with_reducible refine Kd.C_drewN ?_ _) | (with_reducible refine Kd.C_drew ?_))); (case side2 => exact HC0.out); rintro e w51 ⟨v372, rfl, ho0, hb⟩; refine ⟨_, rfl, ?_⟩; have n0_ := Aside0.mk (Kd.R_elder' (by (with_reducible repeat (first | apply Kd.R_alloc | apply Kd.R_drewN | apply Kd.R_drew)); exact HO370.out) (Kd.R_base ho0) hb); have n1_ := Aside0.mk (Kd.R_lower (Kd.R_new' ho0 (Kd.R_lt (by (with_reducible repeat (first | apply Kd.R_alloc | apply Kd.R_drewN | apply Kd.R_drew)); exact HO370.out))) (below_size (by repeat (first | (with_reducible first | exact HB.out | apply below_alloc | apply pw_below_drewN | apply below_drew1) | exact HB.out)))); have n2_ := Aside0.mk (below_step (by repeat (first | (with_reducible first | exact HB.out | apply below_alloc | apply pw_below_drewN | apply below_drew1) | exact HB.out)) hb); clear HO370; clear HB; have HO370 := n0_; have HO373 := n1_; have HB := n2_; clear n0_ n1_ n2_; (try clear hb); (try clear hb2); (try clear hk); (try clear hi); (try clear ho0); obtain ⟨Ao52, co52, eo52⟩ := Kd.R_slice HO370.out; subst eo52; obtain ⟨Ao53, co53, eo53⟩ := Kd.R_slice HO373.out; subst eo53) | ((with_reducible refine gate_callee (f := 20) rfl ?_); refine goesL_ (some 81) rfl rfl Try.func20 (by kernel_rfl) rfl #[.slice Ao52 t368.length co52, .slice Ao53 t371.length co53] rfl (by (try simp only [List.map_toArray, List.map_cons, List.map_nil]); first | done | rfl | (simp only [List.length_drop, List.length_take]; rfl)) ?_; (with_reducible refine (errataref45_SameInts.calls kj26 _ _ t368 _ _ t371 true _ ?side1 ?side2 ?side3 ?side4 A45.out).mono ?_); (case side1 => repeat (first | exact (Kd.R_reads' HO370.out).2.2 | (with_reducible refine Kd.C_alloc ?_ _) | (with_reducible refine Kd.C_drewN ?_ _) | (with_reducible refine Kd.C_drew ?_))); (case side2 => exact (Kd.R_reads' HO370.out).2.1); (case side3 => repeat (first | exact (Kd.R_reads' HO373.out).2.2 | (with_reducible refine Kd.C_alloc ?_ _) | (with_reducible refine Kd.C_drewN ?_ _) | (with_reducible refine Kd.C_drew ?_))); (case side4 => exact (Kd.R_reads' HO373.out).2.1); rintro e w' ⟨rfl, ⟨nd, rfl⟩⟩; refine ⟨_, rfl, ?_⟩) | (go_at_call 14; (with_reducible refine (timeline_Open.calls kj26 _ _ l0 a2 t375 _ ?side1 ?side2 A47.out).mono ?_); (case side1 => repeat (first | exact (Kd.C_below HR0.out (by repeat (first | (with_reducible first | exact HB.out | apply below_alloc | apply pw_below_drewN | apply below_drew1) | exact HB.out))) | (with_reducible refine Kd.C_alloc ?_ _) | (with_reducible refine Kd.C_drewN ?_ _) | (with_reducible refine Kd.C_drew ?_))); (case side2 => exact HC0.out); rintro e w54 ⟨v376, rfl, ho0, hb⟩; have n0_ := Aside0.mk (Kd.R_elder' (by (with_reducible repeat (first | apply Kd.R_alloc | apply Kd.R_drewN | apply Kd.R_drew)); exact HO370.out) (Kd.R_base ho0) hb); have n1_ := Aside0.mk (Kd.R_elder' (by (with_reducible repeat (first | apply Kd.R_alloc | apply Kd.R_drewN | apply Kd.R_drew)); exact HO373.out) (Kd.R_base ho0) hb); have n2_ := Aside0.mk (Kd.R_lower (Kd.R_new' (Kd.R_new' ho0 (Kd.R_lt (by (with_reducible repeat (first | apply Kd.R_alloc | apply Kd.R_drewN | apply Kd.R_drew)); exact HO370.out))) (Kd.R_lt (by (with_reducible repeat (first | apply Kd.R_alloc | apply Kd.R_drewN | apply Kd.R_drew)); exact HO373.out))) (below_size (by repeat (first | (with_reducible first | exact HB.out | apply below_alloc | apply pw_below_drewN | apply below_drew1) | exact HB.out)))); have n3_ := Aside0.mk (below_step (by repeat (first | (with_reducible first | exact HB.out | apply below_alloc | apply pw_below_drewN | apply below_drew1) | exact HB.out)) hb); clear HO370; clear HO373; clear HB; have HO370 := n0_; have HO373 := n1_; have HO377 := n2_; have HB := n3_; clear n0_ n1_ n2_ n3_; (try clear hb); (try clear hb2); (try clear hk); (try clear hi); (try clear ho0)) | (go_at_call 22; (with_reducible refine (errataref45_Versions.calls kj26 _ _ l0 a2 t378 _ ?side1 ?side2 A48.out).mono ?_); (case side1 => repeat (first | exact (Kd.C_below HR0.out HB.out) | (with_reducible refine Kd.C_alloc ?_ _) | (with_reducible refine Kd.C_drewN ?_ _) | (with_reducible refine Kd.C_drew ?_))); (case side2 => exact HC0.out); rintro e w55 ⟨v379, rfl, ho0, hb⟩; have n0_ := Aside0.mk (Kd.R_elder' (by (with_reducible repeat (first | apply Kd.R_alloc | apply Kd.R_drewN | apply Kd.R_drew)); exact HO370.out) (Kd.R_base ho0) hb); have n1_ := Aside0.mk (Kd.R_elder' (by (with_reducible repeat (first | apply Kd.R_alloc | apply Kd.R_drewN | apply Kd.R_drew)); exact HO373.out) (Kd.R_base ho0) hb); have n2_ := Aside0.mk (Kd.R_elder' (by (with_reducible repeat (first | apply Kd.R_alloc | apply Kd.R_drewN | apply Kd.R_drew)); exact HO377.out) (Kd.R_base ho0) hb); have n3_ := Aside0.mk (Kd.R_lower (Kd.R_new' (Kd.R_new' (Kd.R_new' ho0 (Kd.R_lt (by (with_reducible repeat (first | apply Kd.R_alloc | apply Kd.R_drewN | apply Kd.R_drew)); exact HO370.out))) (Kd.R_lt (by (with_reducible repeat (first | apply Kd.R_alloc | apply Kd.R_drewN | apply Kd.R_drew)); exact HO373.out))) (Kd.R_lt (by (with_reducible repeat (first | apply Kd.R_alloc | apply Kd.R_drewN | apply Kd.R_drew)); exact HO377.out))) (below_size (by repeat (first | (with_reducible first | exact HB.out | apply below_alloc | apply pw_below_drewN | apply below_drew1) | exact HB.out)))); have n4_ := Aside0.mk (below_step (by repeat (first | (with_reducible first | exact HB.out | apply below_alloc | apply pw_below_drewN | apply below_drew1) | exact HB.out)) hb); clear HO370; clear HO373; clear HO377; clear HB; have HO370 := n0_; have HO373 := n1_; have HO377 := n2_; have HO380 := n3_; have HB := n4_; clear n0_ n1_ n2_ n3_ n4_; (try clear hb); (try clear hb2); (try clear hk); (try clear hi); (try clear ho0); obtain ⟨Ao56, co56, eo56⟩ := Kd.R_slice HO377.out; subst eo56; obtain ⟨Ao57, co57, eo57⟩ := Kd.R_slice HO380.out; subst eo57) | (go_at_call 20; (with_reducible refine (errataref45_SameInts.calls kj26 _ _ t375 _ _ t378 t381 _ ?side1 ?side2 ?side3 ?side4 A49.out).mono ?_); (case side1 => repeat (first | exact (Kd.R_reads' HO377.out).2.2 | (with_reducible refine Kd.C_alloc ?_ _) | (with_reducible refine Kd.C_drewN ?_ _) | (with_reducible refine Kd.C_drew ?_))); (case side2 => exact (Kd.R_reads' HO377.out).2.1); (case side3 => repeat (first | exact (Kd.R_reads' HO380.out).2.2 | (with_reducible refine Kd.C_alloc ?_ _) | (with_reducible refine Kd.C_drewN ?_ _) | (with_reducible refine Kd.C_drew ?_))); (case side4 => exact (Kd.R_reads' HO380.out).2.1); rintro e w' ⟨rfl, ⟨nd, rfl⟩⟩))
                          go_meet
                          case rel => exact ⟨_, (!t381), (by first | rfl | (simp; done) | (simp [*]; done)), H', ⟨by have := HJ6.out; have := HJ11.out; have := HJ26.out; first | omega | exact Nat.le_refl _⟩, ⟨by repeat (first | (with_reducible first | exact HB.out | apply below_alloc | apply pw_below_drewN | apply below_drew1) | exact HB.out)⟩⟩
                        · replace c46 := Bool.eq_false_iff.mpr c46
                          subst c46
                          have H1 : (erratalaw45_TimelineTells.j3 kj26 l0 a3 l4 t350 true) = some r := by rw [if_neg (show ¬ (false = true) by decide)] at H; exact H
                          clear H
                          have H := H1
                          clear H1
                          have H' := Aside0.mk H
                          clear H
                          go_wp2_with (first | ((with_reducible refine gate_callee (f := 21) rfl ?_); refine goesL_ (some 78) rfl rfl Try.func21 (by kernel_rfl) rfl #[.slice A0 l0.length c0] rfl (by (try simp only [List.map_toArray, List.map_cons, List.map_nil]); first | done | rfl | (simp only [List.length_drop, List.length_take]; rfl)) ?_; (with_reducible refine (timeline_Versions.calls kj26 _ _ l0 t368 _ ?side1 ?side2 A43.out).mono ?_); (case side1 => repeat (first | exact (Kd.C_below HR0.out HB.out) | (with_reducible refine Kd.C_alloc ?_ _) | (with_reducible refine Kd.C_drewN ?_ _) | (with_reducible refine Kd.C_drew ?_))); (case side2 => exact HC0.out); rintro e w58 ⟨v369, rfl, ho0, hb⟩; refine ⟨_, rfl, ?_⟩; have n0_ := Aside0.mk (Kd.R_lower ho0 (below_size (by repeat (first | (with_reducible first | exact HB.out | apply below_alloc | apply pw_below_drewN | apply below_drew1) | exact HB.out)))); have n1_ := Aside0.mk (below_step (by repeat (first | (with_reducible first | exact HB.out | apply below_alloc | apply pw_below_drewN | apply below_drew1) | exact HB.out)) hb); clear HB; have HO370 := n0_; have HB := n1_; clear n0_ n1_; (try clear hb); (try clear hb2); (try clear hk); (try clear hi); (try clear ho0)) | ((with_reducible refine gate_callee (f := 22) rfl ?_); refine goesL_ (some 80) rfl rfl Try.func22 (by kernel_rfl) rfl #[.slice A0 l0.length c0, .int .i64 (-1)] rfl (by (try simp only [List.map_toArray, List.map_cons, List.map_nil]); first | done | rfl | (simp only [List.length_drop, List.length_take]; rfl)) ?_; (with_reducible refine (errataref45_Versions.calls kj26 _ _ l0 (-1) t371 _ ?side1 ?side2 A44.out).mono ?_); (case side1 => repeat (first | exact (Kd.C_below HR0.out HB.out) | (with_reducible refine Kd.C_alloc ?_ _) | (with_reducible refine Kd.C_drewN ?_ _) | (with_reducible refine Kd.C_drew ?_))); (case side2 => exact HC0.out); rintro e w59 ⟨v372, rfl, ho0, hb⟩; refine ⟨_, rfl, ?_⟩; have n0_ := Aside0.mk (Kd.R_elder' (by (with_reducible repeat (first | apply Kd.R_alloc | apply Kd.R_drewN | apply Kd.R_drew)); exact HO370.out) (Kd.R_base ho0) hb); have n1_ := Aside0.mk (Kd.R_lower (Kd.R_new' ho0 (Kd.R_lt (by (with_reducible repeat (first | apply Kd.R_alloc | apply Kd.R_drewN | apply Kd.R_drew)); exact HO370.out))) (below_size (by repeat (first | (with_reducible first | exact HB.out | apply below_alloc | apply pw_below_drewN | apply below_drew1) | exact HB.out)))); have n2_ := Aside0.mk (below_step (by repeat (first | (with_reducible first | exact HB.out | apply below_alloc | apply pw_below_drewN | apply below_drew1) | exact HB.out)) hb); clear HO370; clear HB; have HO370 := n0_; have HO373 := n1_; have HB := n2_; clear n0_ n1_ n2_; (try clear hb); (try clear hb2); (try clear hk); (try clear hi); (try clear ho0); obtain ⟨Ao60, co60, eo60⟩ := Kd.R_slice HO370.out; subst eo60; obtain ⟨Ao61, co61, eo61⟩ := Kd.R_slice HO373.out; subst eo61) | ((with_reducible refine gate_callee (f := 20) rfl ?_); refine goesL_ (some 81) rfl rfl Try.func20 (by kernel_rfl) rfl #[.slice Ao60 t368.length co60, .slice Ao61 t371.length co61] rfl (by (try simp only [List.map_toArray, List.map_cons, List.map_nil]); first | done | rfl | (simp only [List.length_drop, List.length_take]; rfl)) ?_; (with_reducible refine (errataref45_SameInts.calls kj26 _ _ t368 _ _ t371 false _ ?side1 ?side2 ?side3 ?side4 A45.out).mono ?_); (case side1 => repeat (first | exact (Kd.R_reads' HO370.out).2.2 | (with_reducible refine Kd.C_alloc ?_ _) | (with_reducible refine Kd.C_drewN ?_ _) | (with_reducible refine Kd.C_drew ?_))); (case side2 => exact (Kd.R_reads' HO370.out).2.1); (case side3 => repeat (first | exact (Kd.R_reads' HO373.out).2.2 | (with_reducible refine Kd.C_alloc ?_ _) | (with_reducible refine Kd.C_drewN ?_ _) | (with_reducible refine Kd.C_drew ?_))); (case side4 => exact (Kd.R_reads' HO373.out).2.1); rintro e w' ⟨rfl, ⟨nd, rfl⟩⟩; refine ⟨_, rfl, ?_⟩))
                          go_meet
                          case rel => exact ⟨_, (true), (by first | rfl | (simp; done) | (simp [*]; done)), H', ⟨by have := HJ6.out; have := HJ11.out; have := HJ26.out; first | omega | exact Nat.le_refl _⟩, ⟨by repeat (first | (with_reducible first | exact HB.out | apply below_alloc | apply pw_below_drewN | apply below_drew1) | exact HB.out)⟩⟩
                      case rest =>
                        clear HC42
                        try clear c1
                        try clear c2
                        try clear p2
                        try clear c3
                        try clear c4
                        try clear c6
                        try clear c8
                        try clear c10
                        try clear c11
                        try clear c15
                        try clear c15b0
                        try clear c15b1
                        try clear c15b2
                        try clear c16
                        try clear c18
                        try clear c20
                        try clear c21
                        try clear c22
                        try clear c24
                        try clear c31
                        try clear c31b0
                        try clear c31b1
                        try clear c33
                        try clear c41
                        try clear c46
                        try clear p2
                        obtain ⟨kq, x92_41, rfl, HA, HJ41, HB⟩ := hcut
                        cases kq with
                        | zero => exact absurd HA.out (by simp [erratalaw45_TimelineTells.j3])
                        | succ kj41 =>
                          have H := HA.out
                          clear HA
                          simp only [erratalaw45_TimelineTells.j3] at H
                          by_cases c62 : x92_41 = true
                          · subst c62
                            have H1 : (some false) = some r := by rw [if_pos rfl] at H; exact H
                            clear H
                            have H := H1
                            clear H1
                            obtain rfl := Option.some.inj H
                            go_wp2
                            go_ret
                            exact ⟨by first | rfl | (simp [errW_none, errW_some] <;> rfl) | (simp [*, errW_none, errW_some] <;> rfl), by repeat (first | (with_reducible first | exact HB.out | apply below_alloc | apply pw_below_drewN | apply below_drew1) | exact HB.out)⟩
                          · replace c62 := Bool.eq_false_iff.mpr c62
                            subst c62
                            have H1 : (if t350 = true then ((timeline_Spans.f kj41 l0 a3).bind fun t382 => ((errataref45_Spans.f kj41 l0 a3).bind fun t385 => ((errataref45_Same.f kj41 t382 t385).bind fun t388 => (if t388 = true then ((timeline_Pick.f kj41 l0 a3 l4).bind fun t389 => ((errataref45_Pick.f kj41 l0 a3 l4).bind fun t392 => ((errataref45_SameDeltas.f kj41 t389 t392).bind fun t395 => (some t395)))) else (some false))))) else (some false)) = some r := by rw [if_neg (show ¬ (false = true) by decide)] at H; exact H
                            clear H
                            have H := H1
                            clear H1
                            by_cases c63 : t350 = true
                            · subst c63
                              have H1 : ((timeline_Spans.f kj41 l0 a3).bind fun t382 => ((errataref45_Spans.f kj41 l0 a3).bind fun t385 => ((errataref45_Same.f kj41 t382 t385).bind fun t388 => (if t388 = true then ((timeline_Pick.f kj41 l0 a3 l4).bind fun t389 => ((errataref45_Pick.f kj41 l0 a3 l4).bind fun t392 => ((errataref45_SameDeltas.f kj41 t389 t392).bind fun t395 => (some t395)))) else (some false))))) = some r := by rw [if_pos rfl] at H; exact H
                              clear H
                              have H := H1
                              clear H1
                              replace H := Option.bind_eq_some_iff.mp H
                              obtain ⟨t382, A640, H⟩ := H
                              replace H : ((errataref45_Spans.f kj41 l0 a3).bind fun t385 => ((errataref45_Same.f kj41 t382 t385).bind fun t388 => (if t388 = true then ((timeline_Pick.f kj41 l0 a3 l4).bind fun t389 => ((errataref45_Pick.f kj41 l0 a3 l4).bind fun t392 => ((errataref45_SameDeltas.f kj41 t389 t392).bind fun t395 => (some t395)))) else (some false)))) = some r := H
                              have A64 := Aside0.mk A640
                              clear A640
                              replace H := Option.bind_eq_some_iff.mp H
                              obtain ⟨t385, A650, H⟩ := H
                              replace H : ((errataref45_Same.f kj41 t382 t385).bind fun t388 => (if t388 = true then ((timeline_Pick.f kj41 l0 a3 l4).bind fun t389 => ((errataref45_Pick.f kj41 l0 a3 l4).bind fun t392 => ((errataref45_SameDeltas.f kj41 t389 t392).bind fun t395 => (some t395)))) else (some false))) = some r := H
                              have A65 := Aside0.mk A650
                              clear A650
                              replace H := Option.bind_eq_some_iff.mp H
                              obtain ⟨t388, A660, H⟩ := H
                              replace H : (if t388 = true then ((timeline_Pick.f kj41 l0 a3 l4).bind fun t389 => ((errataref45_Pick.f kj41 l0 a3 l4).bind fun t392 => ((errataref45_SameDeltas.f kj41 t389 t392).bind fun t395 => (some t395)))) else (some false)) = some r := H
                              have A66 := Aside0.mk A660
                              clear A660
                              by_cases c67 : t388 = true
                              · subst c67
                                have H1 : ((timeline_Pick.f kj41 l0 a3 l4).bind fun t389 => ((errataref45_Pick.f kj41 l0 a3 l4).bind fun t392 => ((errataref45_SameDeltas.f kj41 t389 t392).bind fun t395 => (some t395)))) = some r := by rw [if_pos rfl] at H; exact H
                                clear H
                                have H := H1
                                clear H1
                                replace H := Option.bind_eq_some_iff.mp H
                                obtain ⟨t389, A680, H⟩ := H
                                replace H : ((errataref45_Pick.f kj41 l0 a3 l4).bind fun t392 => ((errataref45_SameDeltas.f kj41 t389 t392).bind fun t395 => (some t395))) = some r := H
                                have A68 := Aside0.mk A680
                                clear A680
                                replace H := Option.bind_eq_some_iff.mp H
                                obtain ⟨t392, A690, H⟩ := H
                                replace H : ((errataref45_SameDeltas.f kj41 t389 t392).bind fun t395 => (some t395)) = some r := H
                                have A69 := Aside0.mk A690
                                clear A690
                                replace H := Option.bind_eq_some_iff.mp H
                                obtain ⟨t395, A700, H⟩ := H
                                replace H : (some t395) = some r := H
                                have A70 := Aside0.mk A700
                                clear A700
                                obtain rfl := Option.some.inj H
                                go_wp2_with (first | (go_at_call 23; (with_reducible refine (timeline_Spans.calls kj41 _ _ l0 a3 t382 _ ?side1 ?side2 A64.out).mono ?_); (case side1 => repeat (first | exact (Kd.C_below HR0.out HB.out) | (with_reducible refine Kd.C_alloc ?_ _) | (with_reducible refine Kd.C_drewN ?_ _) | (with_reducible refine Kd.C_drew ?_))); (case side2 => exact HC0.out); rintro e w71 ⟨v383, rfl, ho0, hb⟩; have n0_ := Aside0.mk (Kd.R_lower ho0 (below_size (by repeat (first | (with_reducible first | exact HB.out | apply below_alloc | apply pw_below_drewN | apply below_drew1) | exact HB.out)))); have n1_ := Aside0.mk (below_step (by repeat (first | (with_reducible first | exact HB.out | apply below_alloc | apply pw_below_drewN | apply below_drew1) | exact HB.out)) hb); clear HB; have HO384 := n0_; have HB := n1_; clear n0_ n1_; (try clear hb); (try clear hb2); (try clear hk); (try clear hi); (try clear ho0)) | (go_at_call 24; (with_reducible refine (errataref45_Spans.calls kj41 _ _ l0 a3 t385 _ ?side1 ?side2 A65.out).mono ?_); (case side1 => repeat (first | exact (Kd.C_below HR0.out HB.out) | (with_reducible refine Kd.C_alloc ?_ _) | (with_reducible refine Kd.C_drewN ?_ _) | (with_reducible refine Kd.C_drew ?_))); (case side2 => exact HC0.out); rintro e w72 ⟨v386, rfl, ho0, hb⟩; have n0_ := Aside0.mk (Kd.R_elder' (by (with_reducible repeat (first | apply Kd.R_alloc | apply Kd.R_drewN | apply Kd.R_drew)); exact HO384.out) (Kd.R_base ho0) hb); have n1_ := Aside0.mk (Kd.R_lower (Kd.R_new' ho0 (Kd.R_lt (by (with_reducible repeat (first | apply Kd.R_alloc | apply Kd.R_drewN | apply Kd.R_drew)); exact HO384.out))) (below_size (by repeat (first | (with_reducible first | exact HB.out | apply below_alloc | apply pw_below_drewN | apply below_drew1) | exact HB.out)))); have n2_ := Aside0.mk (below_step (by repeat (first | (with_reducible first | exact HB.out | apply below_alloc | apply pw_below_drewN | apply below_drew1) | exact HB.out)) hb); clear HO384; clear HB; have HO384 := n0_; have HO387 := n1_; have HB := n2_; clear n0_ n1_ n2_; (try clear hb); (try clear hb2); (try clear hk); (try clear hi); (try clear ho0); obtain ⟨Ao73, co73, eo73⟩ := Kd.R_slice HO384.out; subst eo73; obtain ⟨Ao74, co74, eo74⟩ := Kd.R_slice HO387.out; subst eo74) | (go_at_call 17; (with_reducible refine (errataref45_Same.calls kj41 _ _ t382 _ _ t385 true _ ?side1 ?side2 ?side3 ?side4 A66.out).mono ?_); (case side1 => repeat (first | exact (Kd.R_reads' HO384.out).2.2 | (with_reducible refine Kd.C_alloc ?_ _) | (with_reducible refine Kd.C_drewN ?_ _) | (with_reducible refine Kd.C_drew ?_))); (case side2 => exact (Kd.R_reads' HO384.out).2.1); (case side3 => repeat (first | exact (Kd.R_reads' HO387.out).2.2 | (with_reducible refine Kd.C_alloc ?_ _) | (with_reducible refine Kd.C_drewN ?_ _) | (with_reducible refine Kd.C_drew ?_))); (case side4 => exact (Kd.R_reads' HO387.out).2.1); rintro e w' ⟨rfl, ⟨nd, rfl⟩⟩) | (go_at_call 26; (with_reducible refine (timeline_Pick.calls kj41 _ _ l0 a3 _ _ l4 t389 _ ?side1 ?side2 ?side3 ?side4 A68.out).mono ?_); (case side1 => repeat (first | exact (Kd.C_below HR0.out (by repeat (first | (with_reducible first | exact HB.out | apply below_alloc | apply pw_below_drewN | apply below_drew1) | exact HB.out))) | (with_reducible refine Kd.C_alloc ?_ _) | (with_reducible refine Kd.C_drewN ?_ _) | (with_reducible refine Kd.C_drew ?_))); (case side2 => exact HC0.out); (case side3 => repeat (first | exact (Kd.C_below HR4.out (by repeat (first | (with_reducible first | exact HB.out | apply below_alloc | apply pw_below_drewN | apply below_drew1) | exact HB.out))) | (with_reducible refine Kd.C_alloc ?_ _) | (with_reducible refine Kd.C_drewN ?_ _) | (with_reducible refine Kd.C_drew ?_))); (case side4 => exact HC4.out); rintro e w75 ⟨v390, rfl, ho0, hb⟩; have n0_ := Aside0.mk (Kd.R_below (by (with_reducible repeat (first | apply Kd.R_alloc | apply Kd.R_drewN | apply Kd.R_drew)); exact HO384.out) hb); have n1_ := Aside0.mk (Kd.R_below (by (with_reducible repeat (first | apply Kd.R_alloc | apply Kd.R_drewN | apply Kd.R_drew)); exact HO387.out) hb); have n2_ := Aside0.mk (Kd.N_lower (Kd.N_mono (ok' := fun k_ => some k_ ≠ (.slice Ao73 t382.length co73 : Value).ownBlock ∧ some k_ ≠ (.slice Ao74 t385.length co74 : Value).ownBlock) (Kd.S_N (Kd.S_bound ho0)) (fun k_ hk_ => ⟨(Kd.fresh' (Kd.R_lt (by (with_reducible repeat (first | apply Kd.R_alloc | apply Kd.R_drewN | apply Kd.R_drew)); exact HO384.out)) k_ hk_.2.1), (Kd.fresh' (Kd.R_lt (by (with_reducible repeat (first | apply Kd.R_alloc | apply Kd.R_drewN | apply Kd.R_drew)); exact HO387.out)) k_ hk_.2.1)⟩)) (below_size (by repeat (first | (with_reducible first | exact HB.out | apply below_alloc | apply pw_below_drewN | apply below_drew1) | exact HB.out)))); have n3_ := Aside0.mk (below_step (by repeat (first | (with_reducible first | exact HB.out | apply below_alloc | apply pw_below_drewN | apply below_drew1) | exact HB.out)) hb); clear HO384; clear HO387; clear HB; have HO384 := n0_; have HO387 := n1_; have HO391 := n2_; have HB := n3_; clear n0_ n1_ n2_ n3_; (try clear hb); (try clear hb2); (try clear hk); (try clear hi); (try clear ho0)) | (go_at_call 27; (with_reducible refine (errataref45_Pick.calls kj41 _ _ l0 a3 (fun k_ => k_ < w.heap.size) _ _ l4 t392 _ ?side1 ?side2 ?side3 A69.out).mono ?_); (case side1 => repeat (first | exact (Kd.C_below HR0.out HB.out) | (with_reducible refine Kd.C_alloc ?_ _) | (with_reducible refine Kd.C_drewN ?_ _) | (with_reducible refine Kd.C_drew ?_))); (case side2 => exact HC0.out); (case side3 => exact Kd.V_mk HC4.out (Kd.F_below (Kd.C_F k49_heap HR4.out) (by repeat (first | (with_reducible first | exact HB.out | apply below_alloc | apply pw_below_drewN | apply below_drew1) | exact HB.out)))); rintro e w76 ⟨v393, rfl, ho0, hb⟩; have n0_ := Aside0.mk (Kd.R_below (by (with_reducible repeat (first | apply Kd.R_alloc | apply Kd.R_drewN | apply Kd.R_drew)); exact HO384.out) hb); have n1_ := Aside0.mk (Kd.R_below (by (with_reducible repeat (first | apply Kd.R_alloc | apply Kd.R_drewN | apply Kd.R_drew)); exact HO387.out) hb); have n2_ := Aside0.mk (Kd.N_elder' (by (with_reducible repeat (first | apply Kd.N_alloc | apply Kd.N_drewN | apply Kd.N_drew)); exact HO391.out) (by first | exact Kd.N_base ho0 | exact Kd.N_base (Kd.S_N ho0)) hb); have n3_ := Aside0.mk (Kd.N_lower (Kd.N_mono (ok' := fun k_ => some k_ ≠ (.slice Ao73 t382.length co73 : Value).ownBlock ∧ some k_ ≠ (.slice Ao74 t385.length co74 : Value).ownBlock ∧ some k_ ≠ (v390 : Value).ownBlock) ho0 (fun k_ hk_ => ⟨Or.elim hk_ (fun hs_ => fun e_ => Nat.not_le.2 hs_ (Kd.R_base HO384.out k_ e_.symm)) (fun hn_ => (Kd.fresh' (Kd.R_lt (by (with_reducible repeat (first | apply Kd.R_alloc | apply Kd.R_drewN | apply Kd.R_drew)); exact HO384.out)) k_ hn_)), Or.elim hk_ (fun hs_ => fun e_ => Nat.not_le.2 hs_ (Kd.R_base HO387.out k_ e_.symm)) (fun hn_ => (Kd.fresh' (Kd.R_lt (by (with_reducible repeat (first | apply Kd.R_alloc | apply Kd.R_drewN | apply Kd.R_drew)); exact HO387.out)) k_ hn_)), Or.elim hk_ (fun hs_ => fun e_ => Nat.not_le.2 hs_ (Kd.N_base HO391.out k_ e_.symm)) (fun hn_ => (Kd.fresh' (Kd.N_lt (by (with_reducible repeat (first | apply Kd.N_alloc | apply Kd.N_drewN | apply Kd.N_drew)); exact HO391.out)) k_ hn_))⟩)) (below_size (by repeat (first | (with_reducible first | exact HB.out | apply below_alloc | apply pw_below_drewN | apply below_drew1) | exact HB.out)))); have n4_ := Aside0.mk (below_step (by repeat (first | (with_reducible first | exact HB.out | apply below_alloc | apply pw_below_drewN | apply below_drew1) | exact HB.out)) hb); clear HO384; clear HO387; clear HO391; clear HB; have HO384 := n0_; have HO387 := n1_; have HO391 := n2_; have HO394 := n3_; have HB := n4_; clear n0_ n1_ n2_ n3_ n4_; (try clear hb); (try clear hb2); (try clear hk); (try clear hi); (try clear ho0); obtain ⟨Ao77, co77, eo77⟩ := Kd.N_slice HO391.out; subst eo77; obtain ⟨Ao78, co78, eo78⟩ := Kd.N_slice HO394.out; subst eo78) | (go_at_call 25; (with_reducible refine (errataref45_SameDeltas.calls kj41 _ _ t389 _ _ t392 t395 _ ?side1 ?side2 ?side3 ?side4 A70.out).mono ?_); (case side1 => repeat (first | exact (Kd.N_reads' HO391.out).2.2 | (with_reducible refine Kd.C_alloc ?_ _) | (with_reducible refine Kd.C_drewN ?_ _) | (with_reducible refine Kd.C_drew ?_))); (case side2 => exact (Kd.N_reads' HO391.out).2.1); (case side3 => repeat (first | exact (Kd.N_reads' HO394.out).2.2 | (with_reducible refine Kd.C_alloc ?_ _) | (with_reducible refine Kd.C_drewN ?_ _) | (with_reducible refine Kd.C_drew ?_))); (case side4 => exact (Kd.N_reads' HO394.out).2.1); rintro e w79 ⟨rfl, hb⟩; have n0_ := Aside0.mk (Kd.R_below (by (with_reducible repeat (first | apply Kd.R_alloc | apply Kd.R_drewN | apply Kd.R_drew)); exact HO384.out) hb); have n1_ := Aside0.mk (Kd.R_below (by (with_reducible repeat (first | apply Kd.R_alloc | apply Kd.R_drewN | apply Kd.R_drew)); exact HO387.out) hb); have n2_ := Aside0.mk (Kd.N_below (by (with_reducible repeat (first | apply Kd.N_alloc | apply Kd.N_drewN | apply Kd.N_drew)); exact HO391.out) hb); have n3_ := Aside0.mk (Kd.N_below (by (with_reducible repeat (first | apply Kd.N_alloc | apply Kd.N_drewN | apply Kd.N_drew)); exact HO394.out) hb); have n4_ := Aside0.mk (below_step (by repeat (first | (with_reducible first | exact HB.out | apply below_alloc | apply pw_below_drewN | apply below_drew1) | exact HB.out)) hb); clear HO384; clear HO387; clear HO391; clear HO394; clear HB; have HO384 := n0_; have HO387 := n1_; have HO391 := n2_; have HO394 := n3_; have HB := n4_; clear n0_ n1_ n2_ n3_ n4_; (try clear hb); (try clear hb2); (try clear hk); (try clear hi)))
                                go_ret
                                exact ⟨by first | rfl | (simp [errW_none, errW_some] <;> rfl) | (simp [*, errW_none, errW_some] <;> rfl), by repeat (first | (with_reducible first | exact HB.out | apply below_alloc | apply pw_below_drewN | apply below_drew1) | exact HB.out)⟩
                              · replace c67 := Bool.eq_false_iff.mpr c67
                                subst c67
                                have H1 : (some false) = some r := by rw [if_neg (show ¬ (false = true) by decide)] at H; exact H
                                clear H
                                have H := H1
                                clear H1
                                obtain rfl := Option.some.inj H
                                go_wp2_with (first | (go_at_call 23; (with_reducible refine (timeline_Spans.calls kj41 _ _ l0 a3 t382 _ ?side1 ?side2 A64.out).mono ?_); (case side1 => repeat (first | exact (Kd.C_below HR0.out HB.out) | (with_reducible refine Kd.C_alloc ?_ _) | (with_reducible refine Kd.C_drewN ?_ _) | (with_reducible refine Kd.C_drew ?_))); (case side2 => exact HC0.out); rintro e w80 ⟨v383, rfl, ho0, hb⟩; have n0_ := Aside0.mk (Kd.R_lower ho0 (below_size (by repeat (first | (with_reducible first | exact HB.out | apply below_alloc | apply pw_below_drewN | apply below_drew1) | exact HB.out)))); have n1_ := Aside0.mk (below_step (by repeat (first | (with_reducible first | exact HB.out | apply below_alloc | apply pw_below_drewN | apply below_drew1) | exact HB.out)) hb); clear HB; have HO384 := n0_; have HB := n1_; clear n0_ n1_; (try clear hb); (try clear hb2); (try clear hk); (try clear hi); (try clear ho0)) | (go_at_call 24; (with_reducible refine (errataref45_Spans.calls kj41 _ _ l0 a3 t385 _ ?side1 ?side2 A65.out).mono ?_); (case side1 => repeat (first | exact (Kd.C_below HR0.out HB.out) | (with_reducible refine Kd.C_alloc ?_ _) | (with_reducible refine Kd.C_drewN ?_ _) | (with_reducible refine Kd.C_drew ?_))); (case side2 => exact HC0.out); rintro e w81 ⟨v386, rfl, ho0, hb⟩; have n0_ := Aside0.mk (Kd.R_elder' (by (with_reducible repeat (first | apply Kd.R_alloc | apply Kd.R_drewN | apply Kd.R_drew)); exact HO384.out) (Kd.R_base ho0) hb); have n1_ := Aside0.mk (Kd.R_lower (Kd.R_new' ho0 (Kd.R_lt (by (with_reducible repeat (first | apply Kd.R_alloc | apply Kd.R_drewN | apply Kd.R_drew)); exact HO384.out))) (below_size (by repeat (first | (with_reducible first | exact HB.out | apply below_alloc | apply pw_below_drewN | apply below_drew1) | exact HB.out)))); have n2_ := Aside0.mk (below_step (by repeat (first | (with_reducible first | exact HB.out | apply below_alloc | apply pw_below_drewN | apply below_drew1) | exact HB.out)) hb); clear HO384; clear HB; have HO384 := n0_; have HO387 := n1_; have HB := n2_; clear n0_ n1_ n2_; (try clear hb); (try clear hb2); (try clear hk); (try clear hi); (try clear ho0); obtain ⟨Ao82, co82, eo82⟩ := Kd.R_slice HO384.out; subst eo82; obtain ⟨Ao83, co83, eo83⟩ := Kd.R_slice HO387.out; subst eo83) | (go_at_call 17; (with_reducible refine (errataref45_Same.calls kj41 _ _ t382 _ _ t385 false _ ?side1 ?side2 ?side3 ?side4 A66.out).mono ?_); (case side1 => repeat (first | exact (Kd.R_reads' HO384.out).2.2 | (with_reducible refine Kd.C_alloc ?_ _) | (with_reducible refine Kd.C_drewN ?_ _) | (with_reducible refine Kd.C_drew ?_))); (case side2 => exact (Kd.R_reads' HO384.out).2.1); (case side3 => repeat (first | exact (Kd.R_reads' HO387.out).2.2 | (with_reducible refine Kd.C_alloc ?_ _) | (with_reducible refine Kd.C_drewN ?_ _) | (with_reducible refine Kd.C_drew ?_))); (case side4 => exact (Kd.R_reads' HO387.out).2.1); rintro e w' ⟨rfl, ⟨nd, rfl⟩⟩))
                                go_ret
                                exact ⟨by first | rfl | (simp [errW_none, errW_some] <;> rfl) | (simp [*, errW_none, errW_some] <;> rfl), by repeat (first | (with_reducible first | exact HB.out | apply below_alloc | apply pw_below_drewN | apply below_drew1) | exact HB.out)⟩
                            · replace c63 := Bool.eq_false_iff.mpr c63
                              subst c63
                              have H1 : (some false) = some r := by rw [if_neg (show ¬ (false = true) by decide)] at H; exact H
                              clear H
                              have H := H1
                              clear H1
                              obtain rfl := Option.some.inj H
                              go_wp2
                              go_ret
                              exact ⟨by first | rfl | (simp [errW_none, errW_some] <;> rfl) | (simp [*, errW_none, errW_some] <;> rfl), by repeat (first | (with_reducible first | exact HB.out | apply below_alloc | apply pw_below_drewN | apply below_drew1) | exact HB.out)⟩
              · replace c24 := Bool.eq_false_iff.mpr c24
                subst c24
                have H1 : (some t350) = some r := by rw [if_neg (show ¬ (false = true) by decide)] at H; exact H
                clear H
                have H := H1
                clear H1
                obtain rfl := Option.some.inj H
                go_wp2_with (first | ((with_reducible refine gate_callee (f := 16) rfl ?_); refine goesL_ (some 42) rfl rfl Try.func16 (by kernel_rfl) rfl #[.slice A0 l0.length c0] rfl (by (try simp only [List.map_toArray, List.map_cons, List.map_nil]); first | done | rfl | (simp only [List.length_drop, List.length_take]; rfl)) ?_; (with_reducible refine (errataref45_Right.calls kj11 _ _ l0 false _ ?side1 ?side2 A23.out).mono ?_); (case side1 => repeat (first | exact (Kd.C_below HR0.out HB.out) | (with_reducible refine Kd.C_alloc ?_ _) | (with_reducible refine Kd.C_drewN ?_ _) | (with_reducible refine Kd.C_drew ?_))); (case side2 => exact HC0.out); rintro e w84 ⟨rfl, hb⟩; refine ⟨_, rfl, ?_⟩; have n0_ := Aside0.mk (below_step (by repeat (first | (with_reducible first | exact HB.out | apply below_alloc | apply pw_below_drewN | apply below_drew1) | exact HB.out)) hb); clear HB; have HB := n0_; clear n0_; (try clear hb); (try clear hb2); (try clear hk); (try clear hi)))
                go_ret
                exact ⟨by first | rfl | (simp [errW_none, errW_some] <;> rfl) | (simp [*, errW_none, errW_some] <;> rfl), by repeat (first | (with_reducible first | exact HB.out | apply below_alloc | apply pw_below_drewN | apply below_drew1) | exact HB.out)⟩

end Go.Proofs.Ytkaheioacolemaa.XT
