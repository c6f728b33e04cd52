/- erratalaw45.TimelinePicks returns true for every input, and leaves its arguments as they were. Conditions: none beyond the row's own. -/
import Derived.Test.YtkaheioacolemaaRows
import Derived.Test.YtkaheioacolemaaRd
import Derived.Test.YtkaheioacolemaaPlPicks
import Derived.WalkKit
import Derived.ProofKit
import Derived.OpenShut
import Derived.ShutString
import Derived.ChangeOld
import Derived.Below
import Derived.SizedLaws
namespace Go.Proofs.Ytkaheioacolemaa.timelinePicks
open Go.ChangeShapes Go.WideShapes Go.ChangeAt Go.RowKit Go.Proofs.YtkaheioacolemaaW.PrintWords
open Go.ChangeMaps (open_string shut_string)
open Go.Proofs.Ytkaheioacolemaa.XT Go.Proofs.Ytkaheioacolemaa.B
set_option linter.unusedVariables false
theorem own : ownKnob Try.prog.godebug = none := by kernel_rfl
theorem laidOut : laidOutB Try.prog = true := by kernel_rfl
theorem rdInt (n : Nat) : Rd Try.prog n 3 (Kd.int .i64) (fun x => (Lit.int .i64 x).wf = true) := Rd.int Try.underlying3 (by kernel_rfl)
theorem rdSeg (n : Nat) : Rd Try.prog (n + 1) 34 k34 (fun x : S34 => (Lit.int .i64 x.f0).wf = true ∧ (Lit.int .i64 x.f1).wf = true) :=
  Rd.iso (fun p : Int × Int => (⟨p.1, p.2⟩ : S34)) (fun _ => rfl) (Rd.struct Try.underlying34 (by kernel_rfl) (RdF.cons rfl rfl (rdInt n) (RdF.one rfl (rdInt n))))
theorem rdSegs (n : Nat) : Rd Try.prog n 24 (Kd.slice 34 k34) (fun l => l.length ≤ maxLen ∧ ∀ x ∈ l, (Lit.int .i64 x.f0).wf = true ∧ (Lit.int .i64 x.f1).wf = true) :=
  Rd.less (Rd.slice Try.underlying24 (by kernel_rfl) (rdSeg n))
theorem rdVal (n : Nat) : Rd Try.prog (n + 1) 55 k55 (fun x : S55 => ((Lit.int .i64 x.f0).wf = true ∧ (Lit.int .i64 x.f1).wf = true ∧ x.f2.size ≤ maxLen)) :=
  Rd.iso (fun p : Int × Int × ByteArray => (⟨p.1, p.2.1, p.2.2⟩ : S55)) (fun _ => rfl) (Rd.struct Try.underlying55 (by kernel_rfl) (RdF.cons rfl rfl (rdInt n) (RdF.cons rfl rfl (rdInt n) (RdF.one rfl (Rd.string Try.underlying9 (by kernel_rfl))))))
theorem rdDel (n : Nat) : Rd Try.prog (n + 3) 49 k49 (fun _ : S49 => True) :=
  Rd.imp (Rd.iso (fun p : Int × List S55 × Int => (⟨p.1, p.2.1, p.2.2⟩ : S49)) (fun _ => rfl) (Rd.struct Try.underlying49 (by kernel_rfl) (RdF.cons rfl rfl (rdInt (n + 2)) (RdF.cons rfl rfl (Rd.slice Try.underlying47 (by kernel_rfl) (rdVal n)) (RdF.one rfl (rdInt (n + 2))))))) (fun _ _ => trivial)
theorem rdDels (n : Nat) : Rd Try.prog n 39 (Kd.slice 49 k49) (fun l => l.length ≤ maxLen) :=
  Rd.imp (Rd.less (Rd.less (Rd.slice Try.underlying39 (by kernel_rfl) (rdDel n)))) (fun _ h => h.1)
set_option maxRecDepth 100000 in
theorem lifted (os : Os) (started : os.Started) (H : Type) (enc : TypeId × Value → H) :
    ReturnsInHanded {} Try.checked os 7 .any (Rows.timelinePicksSpec.pre6 enc Try.prog Try.f7 Rows.timelinePicksRow.domain false) (Rows.timelinePicksSpec.post enc Try.prog Try.f7 false true false false) := by
  refine returnsInHanded_of_change_sized (C := Try.checked) own started (by kernel_rfl) Try.func7
    (ChangeSpec.witness6 (enc := enc) (C := Try.checked) false ⟨#[], #[.slice none 0 0, .slice none 0 0, .int .i64 0], []⟩ 8 (by kernel_rfl) (by kernel_rfl) (by kernel_rfl) (by kernel_rfl)) ?_
  intro W base args ds gs before hval0 hW hcnd hsz0 _
  have hval : ∀ (j : Nat) t v, Try.f7.params[j]? = some t → args[j]? = some v → Value.okWide Try.prog W .any base t v := hval0
  have hW' := hW
  obtain ⟨p, q, hA0, hV, rfl, hfz, hnd⟩ := hW
  have hA : DataW.TrodAll enc Try.prog W 0 (fun _ => true) true Try.f7.params.toList args.toList ds p := hA0
  rw [Try.params7] at hA hval
  obtain ⟨v0, vs0, d0, ds0, p0, q0, hargs, rfl, rfl, h0, r0⟩ := trodAll_cons hA
  obtain ⟨v1, vs1, d1, ds1, p1, q1, rfl, rfl, rfl, h1, r1⟩ := trodAll_cons r0
  obtain ⟨v2, vs2, d2, ds2, p2, q2, rfl, rfl, rfl, h2, r2⟩ := trodAll_cons r1
  obtain ⟨rfl, rfl, rfl⟩ := trodAll_nil r2
  obtain rfl : args = #[v0, v1, v2] := by cases args; simp_all
  obtain ⟨rfl, rfl⟩ := trodVars_none hV
  obtain ⟨x0, len0, cap0, rfl⟩ := okWide_slice Try.underlying24 (hval 0 24 v0 rfl rfl)
  have k0 := h0
  have lt0 : ∀ x ∈ p0, x.block < W.heap.size := by obtain ⟨m, hm⟩ := k0; exact DataW.trod_lt m _ _ _ hm
  obtain ⟨A0, c0, l0, hs0, hl0, hC0, hG0⟩ := Rd.arg_slice rdSegs h0 rfl
  injection hs0 with ha0 hb0 hc0
  subst ha0; subst hb0; subst hc0
  obtain ⟨x1, len1, cap1, rfl⟩ := okWide_slice Try.underlying39 (hval 1 39 v1 rfl rfl)
  have k1 := h1
  have lt1 : ∀ x ∈ p1, x.block < W.heap.size := by obtain ⟨m, hm⟩ := k1; exact DataW.trod_lt m _ _ _ hm
  obtain ⟨A1, c1, l1, hs1, hl1, hC1, hG1⟩ := Rd.arg_slice rdDels h1 rfl
  injection hs1 with ha1 hb1 hc1
  subst ha1; subst hb1; subst hc1
  obtain ⟨a2, rfl, rfl, rfl, w2⟩ := open_int Try.underlying3 (hval 2 3 v2 rfl rfl) h2
  clear hA0 hval0 hsz0
  obtain ⟨k, hk⟩ := Ev.rounds (TimelinePicks_ev l0 l1 a2 hG1)
  refine (erratalaw45_TimelinePicks.calls k _ _ l0 (fun k_ => k_ < W.heap.size) _ _ l1 a2 true W hC0 hl0 (Kd.V_mk hl1 (Kd.C_F k49_heap hC1)) hk).mono fun e W' ⟨he, bel⟩ => ?_
  subst he
  exact ⟨_, rfl, _, _, _, [], _, [], hW', trodAll_mk1 (shut_bool Try.underlying4 _), (trodAll_cons_mk (Below.trod laidOut (by kernel_rfl) (of_decide_eq_true (by kernel_rfl)) k0 bel lt0) (trodAll_cons_mk (Below.trod laidOut (by kernel_rfl) (of_decide_eq_true (by kernel_rfl)) k1 bel lt1) (trodAll_cons_mk (shut_int Try.underlying3 w2) trodAll_mk0))), rfl, bel.frame _, fun h => by cases h⟩
theorem over : Rows.timelinePicksRow.holds Try.pinned (OpenSpec.ofChange Rows.timelinePicksSpec) :=
  OpenClaim.holds_of_wide 7 Try.f7 rfl rfl rfl rfl rfl rfl rfl ⟨rfl, rfl, rfl, rfl, rfl⟩ rfl rfl rfl rfl rfl (by kernel_rfl) Try.func7 (by kernel_rfl)
    (of_decide_eq_true (by kernel_rfl)) (by unfold Func.isWrapper; first | (rw [if_pos (by decide +kernel)]; kernel_rfl) | (rw [if_neg (by decide +kernel)]; exact ⟨rfl, rfl⟩))
    (fun os started H enc _ => lifted os started H enc)
theorem proved : Rows.TimelinePicksSaid := over
#print axioms proved
end Go.Proofs.Ytkaheioacolemaa.timelinePicks
namespace Go.Proofs.Ytkaheioacolemaa
/-- The row, under a short name, for the claim. -/
theorem timelinePicks_holds : Rows.TimelinePicksSaid := timelinePicks.proved
end Go.Proofs.Ytkaheioacolemaa
