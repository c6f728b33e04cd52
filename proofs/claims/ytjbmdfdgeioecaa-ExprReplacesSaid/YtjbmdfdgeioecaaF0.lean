/- The functions of the seat: hints, table, runs. Written by gen.py. -/
import Derived.Test.YtjbmdfdgeioecaaAmD
import Derived.Test.YtjbmdfdgeioecaaChecked
import Derived.KernelRfl
import Derived.Lib.Bytealg
import Derived.Test.YtjbmdfdgeioecaaK0
namespace Go.Proofs.Ytjbmdfdgeioecaa.F
open Go.Proofs.Ytjbmdfdgeioecaa.Am
set_option linter.unusedVariables false
set_option linter.unusedSimpArgs false
set_option maxRecDepth 100000
noncomputable abbrev PP : Program := Try.prog
/-! ### errata/erratalaw16.ExprSound: 3 -/
def lSound_h : FHint := ⟨[], [], []⟩
/-! ### errata/erratalaw16.ExprSteps: 4 -/
def lSteps_h : FHint := ⟨[], [], []⟩
/-! ### errata/erratalaw16.ExprTells: 5 -/
def lTells_h : FHint := ⟨[], [(5, ⟨[1, 1, 3, 1, 1, 4, 2, 109], [13, 15, 17, 19], [], []⟩)], []⟩
/-! ### errata/erratalaw16.ExprReads: 6 -/
def lReads_h : FHint := ⟨[86], [(11, ⟨[1, 1, 2, 1, 1, 2, 1, 4, 1, 1, 4, 82], [], [], []⟩)], [(17, [.mark 86 3]), (19, [.freeze 86 true])]⟩
/-! ### errata/erratalaw16.ExprTypes: 7 -/
def lTypes_h : FHint := ⟨[], [], []⟩
/-! ### errata/erratalaw16.ExprReplaces: 8 -/
def lReplaces_h : FHint := ⟨[49], [(6, ⟨[1, 1, 3, 1, 1, 4, 3, 96], [14, 15, 17], [], []⟩)], []⟩
/-! ### errata/erratalaw16.small: 9 -/
def small_h : FHint := ⟨[], [], []⟩
/-! ### errata/erratalaw16.good: 10 -/
def good_h : FHint := ⟨[], [], []⟩
/-! ### errata/erratalaw16.kinds: 12 -/
def kinds_h : FHint := ⟨[18], [(3, ⟨[1, 2, 2, 15], [], [], []⟩)], []⟩
/-! ### errata/erratalaw16.light: 18 -/
def light_h : FHint := ⟨[], [(5, ⟨[0, 1, 3, 3, 1, 35], [], [], []⟩)], []⟩
/-! ### errata/erratalaw16.fits: 28 -/
def fits_h : FHint := ⟨[], [(2, ⟨[1, 2, 1, 24], [], [], []⟩)], []⟩
/-! ### errata/erratalaw16.fair: 30 -/
def fair_h : FHint := ⟨[], [(2, ⟨[1, 2, 1, 25], [], [], []⟩)], []⟩
/-! ### errata/erratalaw16.ints: 34 -/
def ints_h : FHint := ⟨[], [(4, ⟨[2, 3, 1, 20], [], [], []⟩)], []⟩
/-! ### errata/erratalaw16.col: 37 -/
def mkcol_h : FHint := ⟨[], [], []⟩
/-! ### errata/erratalaw16.op: 38 -/
def mkop_h : FHint := ⟨[], [], []⟩
/-! ### errata/erratalaw16.num: 39 -/
def mknum_h : FHint := ⟨[], [], []⟩
/-! ### errata/erratalaw16.least: 40 -/
def least_h : FHint := ⟨[], [], []⟩
/-! ### errata/expr.Type: 11 -/
def xType_h : FHint := ⟨[], [], []⟩
/-! ### errata/expr.Eval: 13 -/
def xEval_h : FHint := ⟨[], [], []⟩
/-! ### errata/expr.Steps: 15 -/
def xSteps_h : FHint := ⟨[20], [(3, ⟨[0, 3, 1, 1, 1, 2, 3, 14], [7], [], []⟩)], []⟩
/-! ### errata/expr.Replace: 19 -/
def xReplace_h : FHint := ⟨[], [], []⟩
/-! ### errata/expr.Inline: 21 -/
def xInline_h : FHint := ⟨[22], [(3, ⟨[0, 3, 2, 1, 1, 3, 3, 26], [8, 9], [], []⟩)], []⟩
/-! ### errata/expr.Timed: 26 -/
def xTimed_h : FHint := ⟨[22], [(4, ⟨[0, 3, 1, 1, 2, 3, 3, 14], [8], [], []⟩)], []⟩
/-! ### errata/expr.Right: 32 -/
def xRight_h : FHint := ⟨[], [(4, ⟨[1, 10, 3, 35], [4], [], []⟩)], []⟩
/-! ### errata/expr.Same: 36 -/
def xSame_h : FHint := ⟨[], [], []⟩
/-! ### (errata/expr.scope).typed: 41 -/
def typed_h : FHint := ⟨[], [], []⟩
/-! ### (errata/expr.frame).eval: 42 -/
def feval_h : FHint := ⟨[44], [(7, ⟨[0, 2, 4, 27, 3, 103], [7], [], []⟩)], []⟩
/-! ### errata/expr.steps: 43 -/
def steps_h : FHint := ⟨[23], [(3, ⟨[1, 2, 1, 1, 1, 6, 3, 46], [7], [], []⟩), (13, ⟨[0, 8, 1, 41, 3, 8], [3, 7], [], []⟩)], []⟩
/-! ### errata/expr.put: 45 -/
def put_h : FHint := ⟨[62], [(7, ⟨[0, 1, 2, 3, 1, 1, 1, 33, 3, 21], [10, 11, 3], [], []⟩)], []⟩
/-! ### errata/expr.levels: 46 -/
def levels_h : FHint := ⟨[], [(3, ⟨[0, 3, 1, 3, 3, 10], [5, 1], [], []⟩)], []⟩
/-! ### errata/expr.inline: 48 -/
def inline_h : FHint := ⟨[37], [(3, ⟨[0, 1, 2, 1, 2, 13, 3, 46], [7, 8, 9], [], []⟩)], []⟩
/-! ### errata/expr.Timed$1: 51 -/
def timed1_h : FHint := ⟨[], [], []⟩
/-! ### errata/expr.walk: 52 -/
def walk_h : FHint := ⟨[], [(3, ⟨[0, 1, 1, 8, 3, 7], [5, 2], [], []⟩)], []⟩
/-! ### errata/expr.Timed$1$1: 53 -/
def timed11_h : FHint := ⟨[], [], []⟩
/-! ### errata/expr.Right$1: 59 -/
def right1_h : FHint := ⟨[], [], []⟩
/-! ### errata/expr.kind: 60 -/
def kind_h : FHint := ⟨[], [], []⟩
/-! ### slices.ContainsFunc[[]int,int]: 61 -/
def contains_h : FHint := ⟨[], [], []⟩
/-! ### slices.EqualFunc[[]errata/api.Expr,[]errata/api.Expr,errata/api.Expr,errata/api.Expr]: 64 -/
def equalFunc_h : FHint := ⟨[], [(4, ⟨[0, 1, 2, 12, 3, 14], [8, 9], [], []⟩)], []⟩
/-! ### (errata/expr.scope).of: 65 -/
def xof_h : FHint := ⟨[29], [(3, ⟨[0, 2, 2, 2, 1, 5, 3, 75], [8], [], []⟩)], []⟩
/-! ### errata/expr.number: 66 -/
def number_h : FHint := ⟨[], [], []⟩
/-! ### errata/expr.truth: 67 -/
def truth_h : FHint := ⟨[], [], []⟩
/-! ### (errata/expr.pair).add: 68 -/
def padd_h : FHint := ⟨[], [], []⟩
/-! ### (errata/expr.pair).sub: 69 -/
def psub_h : FHint := ⟨[], [], []⟩
/-! ### (errata/expr.pair).mul: 70 -/
def pmul_h : FHint := ⟨[], [], []⟩
/-! ### (errata/expr.pair).div: 71 -/
def pdiv_h : FHint := ⟨[], [], []⟩
/-! ### (errata/expr.pair).mod: 72 -/
def pmod_h : FHint := ⟨[], [], []⟩
/-! ### (errata/expr.pair).eq: 73 -/
def peq_h : FHint := ⟨[], [], []⟩
/-! ### (errata/expr.pair).ne: 74 -/
def pne_h : FHint := ⟨[], [], []⟩
/-! ### (errata/expr.pair).lt: 75 -/
def plt_h : FHint := ⟨[], [], []⟩
/-! ### (errata/expr.pair).le: 76 -/
def ple_h : FHint := ⟨[], [], []⟩
/-! ### (errata/expr.pair).both: 77 -/
def pboth_h : FHint := ⟨[], [], []⟩
/-! ### (errata/expr.pair).any: 78 -/
def pany_h : FHint := ⟨[], [], []⟩
/-! ### (errata/expr.pair).join: 79 -/
def pjoin_h : FHint := ⟨[], [], []⟩
/-! ### errata/expr.plus: 80 -/
def plus_h : FHint := ⟨[], [], []⟩
/-! ### errata/expr.clone: 83 -/
def clone_h : FHint := ⟨[25], [(3, ⟨[0, 2, 2, 10, 3, 12], [5, 1], [], []⟩)], []⟩
/-! ### errata/expr.inline$1: 85 -/
def inline1_h : FHint := ⟨[], [], []⟩
/-! ### slices.IndexFunc[[]int,int]: 91 -/
def indexFunc_h : FHint := ⟨[], [(2, ⟨[2, 5, 2, 10], [], [], []⟩)], []⟩
/-! ### (errata/expr.scope).leaf: 92 -/
def leaf_h : FHint := ⟨[], [], []⟩
/-! ### slices.Equal[[]int,int]: 93 -/
def sEqual_h : FHint := ⟨[], [(4, ⟨[2, 10, 2, 12], [], [], []⟩)], []⟩
/-! ### errata/expr.operation: 94 -/
def operation_h : FHint := ⟨[], [], []⟩
/-! ### errata/expr.operation$1: 103 -/
def operation1_h : FHint := ⟨[], [], []⟩
/-! ### errata/expr.operation$1$1: 104 -/
def operation11_h : FHint := ⟨[], [], []⟩
/-! ### errata/expr.pick: 102 -/
def pick_h : FHint := ⟨[], [], []⟩
/-! ### errata/value.Compare: 95 -/
def vCompare_h : FHint := ⟨[], [], []⟩
/-! ### cmp.Or[int]: 105 -/
def cmpOr_h : FHint := ⟨[], [(3, ⟨[0, 3, 1, 2, 3, 9], [], [], []⟩)], []⟩
/-! ### cmp.Compare[int]: 106 -/
def cmpCompare_h : FHint := ⟨[], [], []⟩
/-! ### cmp.isNaN[int]: 119 -/
def isNaN_h : FHint := ⟨[], [], []⟩
/-! ### errata/errataref03.Right: 14 -/
def rvRight_h : FHint := ⟨[], [], []⟩
/-! ### errata/errataref16.Run: 16 -/
def rRun_h : FHint := ⟨[75], [(11, ⟨[1, 1, 3, 1, 1, 3, 1, 3, 3, 113], [17, 11, 13, 18], [], []⟩)], []⟩
/-! ### errata/errataref16.Levels: 17 -/
def rLevels_h : FHint := ⟨[], [(3, ⟨[0, 1, 1, 1, 2, 17], [], [], []⟩)], []⟩
/-! ### errata/errataref16.Replace: 20 -/
def rReplace_h : FHint := ⟨[], [], []⟩
/-! ### errata/errataref16.Inline: 22 -/
def rInline_h : FHint := ⟨[33, 37], [(4, ⟨[1, 2, 2, 1, 3, 45], [9, 11], [], []⟩)], []⟩
/-! ### errata/errataref16.Same: 23 -/
def rSame_h : FHint := ⟨[], [(4, ⟨[0, 2, 2, 1, 1, 47], [], [], []⟩)], []⟩
/-! ### errata/errataref16.Eval: 24 -/
def rEval_h : FHint := ⟨[], [], []⟩
/-! ### errata/errataref16.Steps: 25 -/
def rSteps_h : FHint := ⟨[22], [(3, ⟨[1, 2, 1, 1, 2, 19], [], [], []⟩)], []⟩
/-! ### errata/errataref16.Timed: 27 -/
def rTimed_h : FHint := ⟨[22], [(3, ⟨[1, 2, 1, 1, 2, 19], [], [], []⟩)], []⟩
/-! ### errata/errataref16.Type: 31 -/
def rType_h : FHint := ⟨[], [], []⟩
/-! ### errata/errataref16.Right: 33 -/
def rRight_h : FHint := ⟨[], [(2, ⟨[1, 2, 1, 60], [4], [], []⟩), (6, ⟨[1, 2, 3, 58], [], [], []⟩)], []⟩
/-! ### errata/errataref16.Reads: 35 -/
def rReads_h : FHint := ⟨[], [(5, ⟨[0, 1, 1, 1, 2, 34], [], [], []⟩), (9, ⟨[0, 1, 1, 1, 4, 32], [], [], []⟩)], []⟩
/-! ### errata/errataref16.apply: 44 -/
def rapply_h : FHint := ⟨[], [], []⟩
/-! ### errata/errataref16.put: 47 -/
def rput_h : FHint := ⟨[65], [(7, ⟨[0, 1, 3, 2, 1, 1, 2, 58], [10], [], []⟩)], []⟩
/-! ### errata/errataref16.expand: 49 -/
def rexpand_h : FHint := ⟨[44], [(3, ⟨[0, 1, 3, 2, 1, 1, 2, 74], [10], [], []⟩)], []⟩
/-! ### errata/errataref16.count: 50 -/
def rcount_h : FHint := ⟨[25], [(4, ⟨[1, 2, 1, 1, 3, 76], [], [], []⟩), (10, ⟨[1, 2, 1, 1, 2, 1, 1, 75], [], [], []⟩)], []⟩
/-! ### errata/errataref16.timed: 54 -/
def rtimed_h : FHint := ⟨[], [(7, ⟨[1, 2, 1, 1, 1, 37], [], [], []⟩)], []⟩
/-! ### errata/errataref16.of: 58 -/
def rof_h : FHint := ⟨[], [], []⟩
/-! ### errata/errataref16.kind: 62 -/
def rkind_h : FHint := ⟨[], [], []⟩
/-! ### errata/errataref16.with: 63 -/
def rwith_h : FHint := ⟨[41, 44, 48], [(2, ⟨[2, 3, 1, 43], [], [], []⟩)], []⟩
/-! ### errata/errataref16.truth: 81 -/
def rtruth_h : FHint := ⟨[], [], []⟩
/-! ### errata/errataref16.less: 82 -/
def rless_h : FHint := ⟨[], [], []⟩
/-! ### errata/errataref16.Clone: 84 -/
def rClone_h : FHint := ⟨[28], [(3, ⟨[0, 1, 4, 26], [], [], []⟩)], []⟩
/-! ### errata/errataref16.Parts: 86 -/
def rParts_h : FHint := ⟨[], [(3, ⟨[0, 1, 1, 1, 2, 16], [], [], []⟩)], []⟩
/-! ### errata/errataref16.inner: 90 -/
def rinner_h : FHint := ⟨[38], [(3, ⟨[3, 4, 1, 2, 2, 181], [], [], []⟩)], []⟩
/-! ### errata/errataref16.call: 99 -/
def rcall_h : FHint := ⟨[], [(7, ⟨[0, 2, 1, 5, 2, 36], [], [], []⟩)], []⟩
/-! ### errata/errataref16.number: 100 -/
def rnumber_h : FHint := ⟨[], [], []⟩
/-! ### errata/errataref16.at: 101 -/
def rat_h : FHint := ⟨[], [], []⟩
/-! ### strings.Compare: 107 -/
def strCompare_h : FHint := ⟨[], [], []⟩
/-! ### errata/expr.Reads: 29 -/
def xReads_h : FHint := ⟨[], [], []⟩
/-! ### errata/expr.Reads$1: 55 -/
def reads1_h : FHint := ⟨[], [], []⟩
def tabL : List (Nat × FHint) := [(3, lSound_h), (4, lSteps_h), (5, lTells_h), (6, lReads_h), (7, lTypes_h), (8, lReplaces_h), (9, small_h), (10, good_h), (12, kinds_h), (18, light_h), (28, fits_h), (30, fair_h), (34, ints_h), (37, mkcol_h), (38, mkop_h), (39, mknum_h), (40, least_h), (11, xType_h), (13, xEval_h), (15, xSteps_h), (19, xReplace_h), (21, xInline_h), (26, xTimed_h), (32, xRight_h), (36, xSame_h), (41, typed_h), (42, feval_h), (43, steps_h), (45, put_h), (46, levels_h), (48, inline_h), (51, timed1_h), (52, walk_h), (53, timed11_h), (59, right1_h), (60, kind_h), (61, contains_h), (64, equalFunc_h), (65, xof_h), (66, number_h), (67, truth_h), (68, padd_h), (69, psub_h), (70, pmul_h), (71, pdiv_h), (72, pmod_h), (73, peq_h), (74, pne_h), (75, plt_h), (76, ple_h), (77, pboth_h), (78, pany_h), (79, pjoin_h), (80, plus_h), (83, clone_h), (85, inline1_h), (91, indexFunc_h), (92, leaf_h), (93, sEqual_h), (94, operation_h), (103, operation1_h), (104, operation11_h), (102, pick_h), (95, vCompare_h), (105, cmpOr_h), (106, cmpCompare_h), (119, isNaN_h), (14, rvRight_h), (16, rRun_h), (17, rLevels_h), (20, rReplace_h), (22, rInline_h), (23, rSame_h), (24, rEval_h), (25, rSteps_h), (27, rTimed_h), (31, rType_h), (33, rRight_h), (35, rReads_h), (44, rapply_h), (47, rput_h), (49, rexpand_h), (50, rcount_h), (54, rtimed_h), (58, rof_h), (62, rkind_h), (63, rwith_h), (81, rtruth_h), (82, rless_h), (84, rClone_h), (86, rParts_h), (90, rinner_h), (99, rcall_h), (100, rnumber_h), (101, rat_h), (107, strCompare_h), (29, xReads_h), (55, reads1_h)]
def TT : FTab := fun f => tabL.lookup f
theorem TT_ok : ∀ f h, TT f = some h → okFun PP f h = true := tab_ok (by kernel_rfl)
/-! ### the comparison of two texts: internal/bytealg.CompareString -/
theorem wpList_val {ops : Array Oper} {Q : Exit → Act → World → Prop} {rest : List Oper} {o : Oper} {a : Act} {w w' : World} {v : Value} (hg : o.guard = none) (h : (execOp a.eval o).run PP w = .ok (.value v) w') (hn : wpList PP ops Q rest (a.put o.dst v) w') : wpList PP ops Q (o :: rest) a w := by
  unfold wpList
  rw [if_pos (by simp [Region.wanted, hg])]
  exact .inl (wp_value h hn)
theorem run_cmpstring (a b : ByteArray) (w : World) : (callFunc 126 #[.string a, .string b]).run PP w = .ok (.value (.int .i64 (Lib.compareBytes a.data.toList b.data.toList))) w := by
  have h1 : Extern.findNext Try.f126 = none := by kernel_rfl
  have h2 : Extern.find Try.f126 = some Extern.BytealgCompare.compare := by kernel_rfl
  have h3 : (Try.f126.name == "runtime.NumGoroutine") = false := by decide +kernel
  have h4 : Try.f126.body.isNone = true := rfl
  unfold callFunc
  simp only [Sem.run_bind, program, Sem.run, Try.func126, Result.andThen_ok, Sem.run_pure]
  simp only [h3, h4, Bool.false_eq_true, if_false, if_true, Sem.run_bind, mark, Sem.run, Sem.run_pure, Result.andThen_ok, h1, h2, Lib.run_compareString]
theorem cmp_calls (a b : ByteArray) (w : World) : Calls PP 120 #[.string a, .string b] w fun e w' => e = .returned (.int .i64 (Lib.compareBytes a.data.toList b.data.toList)) ∧ w' = w := by
  refine calls_of_wp Try.func120 rfl ?_
  refine wp_seq (wp_region_list (wpList_val rfl rfl ?_))
  refine wp_seq (wp_region_list (wpList_val rfl rfl (wpList_val rfl rfl (wpList_val (w' := w) (v := .int .i64 (Lib.compareBytes a.data.toList b.data.toList)) rfl ?_ (wpList_val rfl rfl ?_)))))
  · exact Eq.trans (b := (callFunc 126 #[.string a, .string b]).run PP w) (by kernel_rfl) (run_cmpstring a b w)
  · refine wp_ret ⟨rfl, .int .i64 (Lib.compareBytes a.data.toList b.data.toList), Eq.trans (results_tmp rfl _ _ _) (congrArg (fun v => Result.ok v w) ?_), rfl, rfl⟩
    kernel_rfl
def prim0 : ACall := fun f args ms => if f = 120 then (match args with | [.pv (.str a), .pv (.str b)] => some (.pv (.int .i64 (Lib.compareBytes a.data.toList b.data.toList)), ms) | _ => none) else none
theorem prim0_ok : CallOK PP prim0 := by
  intro f args ms r ms' e G ow w vals hr ha hc
  unfold prim0 at e
  split at e
  · rename_i hf
    subst hf
    split at e
    · rename_i a b
      simp only [Option.some.injEq, Prod.mk.injEq] at e
      obtain ⟨rfl, rfl⟩ := e
      have h := ha ms.length (Nat.le_succ _)
      simp only [ARs, AR] at h
      obtain ⟨_, _, rfl, h1, _, _, rfl, h2, rfl⟩ := h
      cases h1
      cases h2
      exact (cmp_calls a b w).mono fun e w' ⟨he, hw⟩ => by
        subst he; subst hw
        exact ⟨_, G, ow, rfl, Gh.le_refl G, Fr.refl G ow _, hr, rfl, fun d _ => by simp only [AR]; exact .int _ _, rfl⟩
    · cases e
  · cases e
def prim : ACall := fun f args ms => if f = 120 then prim0 f args ms else primK f args ms
theorem prim_ok : CallOK PP prim := by
  intro f args ms r ms' e
  unfold prim at e
  split at e
  · exact prim0_ok f args ms r ms' e
  · exact primK_ok f args ms r ms' e
theorem cmp_r (a b : ByteArray) : R PP prim TT 120 [.pv (.str a), .pv (.str b)] [] = some (.pv (.int .i64 (Lib.compareBytes a.data.toList b.data.toList)), []) := R_prim (by kernel_rfl) rfl
theorem keys_r (d s : Nat) (ms : List Mem) : R PP prim TT 57 [.mref (some d) s] ms = some (.func 89 [] [.cptr 0 (.mref (some d) s)], ms) := R_prim (by kernel_rfl) rfl
theorem sorted_r {d s : Nat} {ms : List Mem} {ks : List PV} {xs : List AV} {ns : List Int} (he : entsAt ms d s = some (ks, xs)) (hk : intKs ks = some ns) (h1 : nodupI ns = true) (h2 : ns.all wfI = true) (h3 : ns.length * 8 ≤ 140737488355328) :
    R PP prim TT 56 [.func 89 [] [.cptr 0 (.mref (some d) s)]] ms = some (.pv (.slc (intsP (sortI ns))), ms) := by
  refine R_prim (by kernel_rfl) ?_
  have : prim 56 [.func 89 [] [.cptr 0 (.mref (some d) s)]] ms = (match entsAt ms d s with
        | some (ks, _) => (intKs ks).bind fun ns => if nodupI ns = true ∧ ns.all wfI = true ∧ ns.length * 8 ≤ 140737488355328 then some (.pv (.slc (intsP (sortI ns))), ms) else none
        | none => none) := rfl
  rw [this, he]
  simp only [hk, Option.bind_some]
  rw [if_pos ⟨h1, h2, h3⟩]

noncomputable def RR : ACall := R PP prim TT
theorem RR_ok : CallOK PP RR := R_ok (Try.checked.mixed) prim_ok TT_ok
/-! ### errata/erratalaw16.ExprSound: 3 -/
noncomputable def lSound_b : Code := (Try.f3.body).getD .skip
noncomputable def lSound_L : Nat → St → Out := loopsOf PP RR lSound_h.at lSound_b
abbrev lSound_rs : List ResultVar := [.tmp 8]
theorem lSound_r {args : List AV} {ms : List Mem} {r : AV × List Mem} (e : leaveR PP lSound_rs ms.length (acodeX PP RR [] lSound_L lSound_b (enterN 53 lSound_h args ms)) = some r) : RR 3 args ms = some r := R_runN (T := TT) (h := lSound_h) (fn := Try.f3) (c := lSound_b) (by kernel_rfl) Try.func3 (by kernel_rfl) (by kernel_rfl) (by kernel_rfl) (by kernel_rfl) rfl e
/-! ### errata/erratalaw16.ExprSteps: 4 -/
noncomputable def lSteps_b : Code := (Try.f4.body).getD .skip
noncomputable def lSteps_L : Nat → St → Out := loopsOf PP RR lSteps_h.at lSteps_b
abbrev lSteps_rs : List ResultVar := [.tmp 8]
theorem lSteps_r {args : List AV} {ms : List Mem} {r : AV × List Mem} (e : leaveR PP lSteps_rs ms.length (acodeX PP RR [] lSteps_L lSteps_b (enterN 38 lSteps_h args ms)) = some r) : RR 4 args ms = some r := R_runN (T := TT) (h := lSteps_h) (fn := Try.f4) (c := lSteps_b) (by kernel_rfl) Try.func4 (by kernel_rfl) (by kernel_rfl) (by kernel_rfl) (by kernel_rfl) rfl e
/-! ### errata/erratalaw16.ExprTells: 5 -/
noncomputable def lTells_b : Code := (Try.f5.body).getD .skip
noncomputable def lTells_L : Nat → St → Out := loopsOf PP RR lTells_h.at lTells_b
abbrev lTells_rs : List ResultVar := [.tmp 10]
theorem lTells_r {args : List AV} {ms : List Mem} {r : AV × List Mem} (e : leaveR PP lTells_rs ms.length (acodeX PP RR [] lTells_L lTells_b (enterN 122 lTells_h args ms)) = some r) : RR 5 args ms = some r := R_runN (T := TT) (h := lTells_h) (fn := Try.f5) (c := lTells_b) (by kernel_rfl) Try.func5 (by kernel_rfl) (by kernel_rfl) (by kernel_rfl) (by kernel_rfl) rfl e
noncomputable def lTells_l5 : Code := (cL (cK (cB (cA (cB (cB (cB lTells_b)))))))
noncomputable def lTells_k5 : Code := (cB (cB (cB (cB lTells_b))))
noncomputable def lTells_X5 : St → Out := loopX PP RR [] lTells_h.at lTells_b 5 lTells_l5
theorem lTells_q5 (st : St) : lTells_L 5 st = lTells_X5 (St.forget (lTells_h.at 5) st) := loop_X (i := 0) (fun _ => rfl) (by kernel_rfl) (by kernel_rfl) 5 (by kernel_rfl) st
theorem lTells_e5 (st : St) : lTells_X5 st = thenC (acodeX PP RR [] lTells_L lTells_l5 st) (lTells_L 5) := rfl
abbrev lTells_t5 (t0 t2 t3 t4 t6 t11 t12 : AV) (ms : List Mem) : St := ⟨[t0, .junk, t2, t3, t4, .junk, t6, .junk, .junk, .junk, .junk, t11, t12, .junk, .junk, .junk, .junk, .junk, .junk, .junk, .junk, .junk, .junk, .junk, .junk, .junk, .junk, .junk, .junk, .junk, .junk, .junk, .junk, .junk, .junk, .junk, .junk, .junk, .junk, .junk, .junk, .junk, .junk, .junk, .junk, .junk, .junk, .junk, .junk, .junk, .junk, .junk, .junk, .junk, .junk, .junk, .junk, .junk, .junk, .junk, .junk, .junk, .junk, .junk, .junk, .junk, .junk, .junk, .junk, .junk, .junk, .junk, .junk, .junk, .junk, .junk, .junk, .junk, .junk, .junk, .junk, .junk, .junk, .junk, .junk, .junk, .junk, .junk, .junk, .junk, .junk, .junk, .junk, .junk, .junk, .junk, .junk, .junk, .junk, .junk, .junk, .junk, .junk, .junk, .junk, .junk, .junk, .junk, .junk, .junk, .junk, .junk, .junk, .junk, .junk, .junk, .junk, .junk, .junk, .junk, .junk, .junk], ms⟩
/-! ### errata/erratalaw16.ExprReads: 6 -/
noncomputable def lReads_b : Code := (Try.f6.body).getD .skip
noncomputable def lReads_L : Nat → St → Out := loopsOf PP RR lReads_h.at lReads_b
abbrev lReads_rs : List ResultVar := [.tmp 14]
theorem lReads_r {args : List AV} {ms : List Mem} {r : AV × List Mem} (e : leaveR PP lReads_rs ms.length (acodeX PP RR [(17, [.mark 86 3]), (19, [.freeze 86 true])] lReads_L lReads_b (enterN 101 lReads_h args ms)) = some r) : RR 6 args ms = some r := R_runN (T := TT) (h := lReads_h) (fn := Try.f6) (c := lReads_b) (by kernel_rfl) Try.func6 (by kernel_rfl) (by kernel_rfl) (by kernel_rfl) (by kernel_rfl) rfl e
noncomputable def lReads_l11 : Code := (cL (cK (cB (cA (cB (cB (cB (cB (cB (cB (cB lReads_b)))))))))))
noncomputable def lReads_k11 : Code := (cB (cB (cB (cB (cB (cB (cB (cB lReads_b))))))))
noncomputable def lReads_X11 : St → Out := loopX PP RR [(17, [.mark 86 3]), (19, [.freeze 86 true])] lReads_h.at lReads_b 11 lReads_l11
theorem lReads_q11 (st : St) : lReads_L 11 st = lReads_X11 (St.forget (lReads_h.at 11) st) := loop_X (i := 0) (fun _ => rfl) (by kernel_rfl) (by kernel_rfl) 11 (by kernel_rfl) st
theorem lReads_e11 (st : St) : lReads_X11 st = thenC (acodeX PP RR [(17, [.mark 86 3]), (19, [.freeze 86 true])] lReads_L lReads_l11 st) (lReads_L 11) := rfl
abbrev lReads_t11 (t0 t2 t3 t5 t8 t13 t15 t16 t17 t18 : AV) (ms : List Mem) : St := ⟨[t0, .junk, t2, t3, .junk, t5, .junk, .junk, t8, .junk, .junk, .junk, .junk, t13, .junk, t15, t16, t17, t18, .junk, .junk, .junk, .junk, .junk, .junk, .junk, .junk, .junk, .junk, .junk, .junk, .junk, .junk, .junk, .junk, .junk, .junk, .junk, .junk, .junk, .junk, .junk, .junk, .junk, .junk, .junk, .junk, .junk, .junk, .junk, .junk, .junk, .junk, .junk, .junk, .junk, .junk, .junk, .junk, .junk, .junk, .junk, .junk, .junk, .junk, .junk, .junk, .junk, .junk, .junk, .junk, .junk, .junk, .junk, .junk, .junk, .junk, .junk, .junk, .junk, .junk, .junk, .junk, .junk, .junk, .junk, .junk, .junk, .junk, .junk, .junk, .junk, .junk, .junk, .junk, .junk, .junk, .junk, .junk, .junk, .junk], ms⟩
/-! ### errata/erratalaw16.ExprTypes: 7 -/
noncomputable def lTypes_b : Code := (Try.f7.body).getD .skip
noncomputable def lTypes_L : Nat → St → Out := loopsOf PP RR lTypes_h.at lTypes_b
abbrev lTypes_rs : List ResultVar := [.tmp 10]
theorem lTypes_r {args : List AV} {ms : List Mem} {r : AV × List Mem} (e : leaveR PP lTypes_rs ms.length (acodeX PP RR [] lTypes_L lTypes_b (enterN 96 lTypes_h args ms)) = some r) : RR 7 args ms = some r := R_runN (T := TT) (h := lTypes_h) (fn := Try.f7) (c := lTypes_b) (by kernel_rfl) Try.func7 (by kernel_rfl) (by kernel_rfl) (by kernel_rfl) (by kernel_rfl) rfl e
/-! ### errata/erratalaw16.ExprReplaces: 8 -/
noncomputable def lReplaces_b : Code := (Try.f8.body).getD .skip
noncomputable def lReplaces_L : Nat → St → Out := loopsOf PP RR lReplaces_h.at lReplaces_b
abbrev lReplaces_rs : List ResultVar := [.tmp 10]
theorem lReplaces_r {args : List AV} {ms : List Mem} {r : AV × List Mem} (e : leaveR PP lReplaces_rs ms.length (acodeX PP RR [] lReplaces_L lReplaces_b (enterN 110 lReplaces_h args ms)) = some r) : RR 8 args ms = some r := R_runN (T := TT) (h := lReplaces_h) (fn := Try.f8) (c := lReplaces_b) (by kernel_rfl) Try.func8 (by kernel_rfl) (by kernel_rfl) (by kernel_rfl) (by kernel_rfl) rfl e
noncomputable def lReplaces_l6 : Code := (cL (cK (cB (cA (cB (cB (cB (cB lReplaces_b))))))))
noncomputable def lReplaces_k6 : Code := (cB (cB (cB (cB (cB lReplaces_b)))))
noncomputable def lReplaces_X6 : St → Out := loopX PP RR [] lReplaces_h.at lReplaces_b 6 lReplaces_l6
theorem lReplaces_q6 (st : St) : lReplaces_L 6 st = lReplaces_X6 (St.forget (lReplaces_h.at 6) st) := loop_X (i := 0) (fun _ => rfl) (by kernel_rfl) (by kernel_rfl) 6 (by kernel_rfl) st
theorem lReplaces_e6 (st : St) : lReplaces_X6 st = thenC (acodeX PP RR [] lReplaces_L lReplaces_l6 st) (lReplaces_L 6) := rfl
abbrev lReplaces_t6 (t0 t2 t3 t4 t6 t11 t12 t13 : AV) (ms : List Mem) : St := ⟨[t0, .junk, t2, t3, t4, .junk, t6, .junk, .junk, .junk, .junk, t11, t12, t13, .junk, .junk, .junk, .junk, .junk, .junk, .junk, .junk, .junk, .junk, .junk, .junk, .junk, .junk, .junk, .junk, .junk, .junk, .junk, .junk, .junk, .junk, .junk, .junk, .junk, .junk, .junk, .junk, .junk, .junk, .junk, .junk, .junk, .junk, .junk, .junk, .junk, .junk, .junk, .junk, .junk, .junk, .junk, .junk, .junk, .junk, .junk, .junk, .junk, .junk, .junk, .junk, .junk, .junk, .junk, .junk, .junk, .junk, .junk, .junk, .junk, .junk, .junk, .junk, .junk, .junk, .junk, .junk, .junk, .junk, .junk, .junk, .junk, .junk, .junk, .junk, .junk, .junk, .junk, .junk, .junk, .junk, .junk, .junk, .junk, .junk, .junk, .junk, .junk, .junk, .junk, .junk, .junk, .junk, .junk, .junk], ms⟩
/-! ### errata/erratalaw16.small: 9 -/
noncomputable def small_b : Code := (Try.f9.body).getD .skip
noncomputable def small_L : Nat → St → Out := loopsOf PP RR small_h.at small_b
abbrev small_rs : List ResultVar := [.tmp 0]
theorem small_r {args : List AV} {ms : List Mem} {r : AV × List Mem} (e : leaveR PP small_rs ms.length (acodeX PP RR [] small_L small_b (enterN 75 small_h args ms)) = some r) : RR 9 args ms = some r := R_runN (T := TT) (h := small_h) (fn := Try.f9) (c := small_b) (by kernel_rfl) Try.func9 (by kernel_rfl) (by kernel_rfl) (by kernel_rfl) (by kernel_rfl) rfl e
/-! ### errata/erratalaw16.good: 10 -/
noncomputable def good_b : Code := (Try.f10.body).getD .skip
noncomputable def good_L : Nat → St → Out := loopsOf PP RR good_h.at good_b
abbrev good_rs : List ResultVar := [.tmp 6]
theorem good_r {args : List AV} {ms : List Mem} {r : AV × List Mem} (e : leaveR PP good_rs ms.length (acodeX PP RR [] good_L good_b (enterN 37 good_h args ms)) = some r) : RR 10 args ms = some r := R_runN (T := TT) (h := good_h) (fn := Try.f10) (c := good_b) (by kernel_rfl) Try.func10 (by kernel_rfl) (by kernel_rfl) (by kernel_rfl) (by kernel_rfl) rfl e
/-! ### errata/erratalaw16.kinds: 12 -/
noncomputable def kinds_b : Code := (Try.f12.body).getD .skip
noncomputable def kinds_L : Nat → St → Out := loopsOf PP RR kinds_h.at kinds_b
abbrev kinds_rs : List ResultVar := [.tmp 2]
theorem kinds_r {args : List AV} {ms : List Mem} {r : AV × List Mem} (e : leaveR PP kinds_rs ms.length (acodeX PP RR [] kinds_L kinds_b (enterN 20 kinds_h args ms)) = some r) : RR 12 args ms = some r := R_runN (T := TT) (h := kinds_h) (fn := Try.f12) (c := kinds_b) (by kernel_rfl) Try.func12 (by kernel_rfl) (by kernel_rfl) (by kernel_rfl) (by kernel_rfl) rfl e
noncomputable def kinds_l3 : Code := (cL (cK (cB (cA (cB (cB kinds_b))))))
noncomputable def kinds_k3 : Code := (cB (cB (cB kinds_b)))
noncomputable def kinds_X3 : St → Out := loopX PP RR [] kinds_h.at kinds_b 3 kinds_l3
theorem kinds_q3 (st : St) : kinds_L 3 st = kinds_X3 (St.forget (kinds_h.at 3) st) := loop_X (i := 0) (fun _ => rfl) (by kernel_rfl) (by kernel_rfl) 3 (by kernel_rfl) st
theorem kinds_e3 (st : St) : kinds_X3 st = thenC (acodeX PP RR [] kinds_L kinds_l3 st) (kinds_L 3) := rfl
abbrev kinds_t3 (t0 t3 t4 : AV) (ms : List Mem) : St := ⟨[t0, .junk, .junk, t3, t4, .junk, .junk, .junk, .junk, .junk, .junk, .junk, .junk, .junk, .junk, .junk, .junk, .junk, .junk, .junk], ms⟩
/-! ### errata/erratalaw16.light: 18 -/
noncomputable def light_b : Code := (Try.f18.body).getD .skip
noncomputable def light_L : Nat → St → Out := loopsOf PP RR light_h.at light_b
abbrev light_rs : List ResultVar := [.tmp 6]
theorem light_r {args : List AV} {ms : List Mem} {r : AV × List Mem} (e : leaveR PP light_rs ms.length (acodeX PP RR [] light_L light_b (enterN 43 light_h args ms)) = some r) : RR 18 args ms = some r := R_runN (T := TT) (h := light_h) (fn := Try.f18) (c := light_b) (by kernel_rfl) Try.func18 (by kernel_rfl) (by kernel_rfl) (by kernel_rfl) (by kernel_rfl) rfl e
noncomputable def light_l5 : Code := (cL (cK (cB (cA (cB (cB (cB light_b)))))))
noncomputable def light_k5 : Code := (cB (cB (cB (cB light_b))))
noncomputable def light_X5 : St → Out := loopX PP RR [] light_h.at light_b 5 light_l5
theorem light_q5 (st : St) : light_L 5 st = light_X5 (St.forget (light_h.at 5) st) := loop_X (i := 0) (fun _ => rfl) (by kernel_rfl) (by kernel_rfl) 5 (by kernel_rfl) st
theorem light_e5 (st : St) : light_X5 st = thenC (acodeX PP RR [] light_L light_l5 st) (light_L 5) := rfl
abbrev light_t5 (t1 t2 t3 t7 : AV) (ms : List Mem) : St := ⟨[.junk, t1, t2, t3, .junk, .junk, .junk, t7, .junk, .junk, .junk, .junk, .junk, .junk, .junk, .junk, .junk, .junk, .junk, .junk, .junk, .junk, .junk, .junk, .junk, .junk, .junk, .junk, .junk, .junk, .junk, .junk, .junk, .junk, .junk, .junk, .junk, .junk, .junk, .junk, .junk, .junk, .junk], ms⟩
/-! ### errata/erratalaw16.fits: 28 -/
noncomputable def fits_b : Code := (Try.f28.body).getD .skip
noncomputable def fits_L : Nat → St → Out := loopsOf PP RR fits_h.at fits_b
abbrev fits_rs : List ResultVar := [.tmp 2]
theorem fits_r {args : List AV} {ms : List Mem} {r : AV × List Mem} (e : leaveR PP fits_rs ms.length (acodeX PP RR [] fits_L fits_b (enterN 28 fits_h args ms)) = some r) : RR 28 args ms = some r := R_runN (T := TT) (h := fits_h) (fn := Try.f28) (c := fits_b) (by kernel_rfl) Try.func28 (by kernel_rfl) (by kernel_rfl) (by kernel_rfl) (by kernel_rfl) rfl e
noncomputable def fits_l2 : Code := (cL (cK (cB (cA (cB fits_b)))))
noncomputable def fits_k2 : Code := (cB (cB fits_b))
noncomputable def fits_X2 : St → Out := loopX PP RR [] fits_h.at fits_b 2 fits_l2
theorem fits_q2 (st : St) : fits_L 2 st = fits_X2 (St.forget (fits_h.at 2) st) := loop_X (i := 0) (fun _ => rfl) (by kernel_rfl) (by kernel_rfl) 2 (by kernel_rfl) st
theorem fits_e2 (st : St) : fits_X2 st = thenC (acodeX PP RR [] fits_L fits_l2 st) (fits_L 2) := rfl
abbrev fits_t2 (t0 t3 : AV) (ms : List Mem) : St := ⟨[t0, .junk, .junk, t3, .junk, .junk, .junk, .junk, .junk, .junk, .junk, .junk, .junk, .junk, .junk, .junk, .junk, .junk, .junk, .junk, .junk, .junk, .junk, .junk, .junk, .junk, .junk, .junk], ms⟩
/-! ### errata/erratalaw16.fair: 30 -/
noncomputable def fair_b : Code := (Try.f30.body).getD .skip
noncomputable def fair_L : Nat → St → Out := loopsOf PP RR fair_h.at fair_b
abbrev fair_rs : List ResultVar := [.tmp 2]
theorem fair_r {args : List AV} {ms : List Mem} {r : AV × List Mem} (e : leaveR PP fair_rs ms.length (acodeX PP RR [] fair_L fair_b (enterN 29 fair_h args ms)) = some r) : RR 30 args ms = some r := R_runN (T := TT) (h := fair_h) (fn := Try.f30) (c := fair_b) (by kernel_rfl) Try.func30 (by kernel_rfl) (by kernel_rfl) (by kernel_rfl) (by kernel_rfl) rfl e
noncomputable def fair_l2 : Code := (cL (cK (cB (cA (cB fair_b)))))
noncomputable def fair_k2 : Code := (cB (cB fair_b))
noncomputable def fair_X2 : St → Out := loopX PP RR [] fair_h.at fair_b 2 fair_l2
theorem fair_q2 (st : St) : fair_L 2 st = fair_X2 (St.forget (fair_h.at 2) st) := loop_X (i := 0) (fun _ => rfl) (by kernel_rfl) (by kernel_rfl) 2 (by kernel_rfl) st
theorem fair_e2 (st : St) : fair_X2 st = thenC (acodeX PP RR [] fair_L fair_l2 st) (fair_L 2) := rfl
abbrev fair_t2 (t0 t3 : AV) (ms : List Mem) : St := ⟨[t0, .junk, .junk, t3, .junk, .junk, .junk, .junk, .junk, .junk, .junk, .junk, .junk, .junk, .junk, .junk, .junk, .junk, .junk, .junk, .junk, .junk, .junk, .junk, .junk, .junk, .junk, .junk, .junk], ms⟩
/-! ### errata/erratalaw16.ints: 34 -/
noncomputable def ints_b : Code := (Try.f34.body).getD .skip
noncomputable def ints_L : Nat → St → Out := loopsOf PP RR ints_h.at ints_b
abbrev ints_rs : List ResultVar := [.tmp 4]
theorem ints_r {args : List AV} {ms : List Mem} {r : AV × List Mem} (e : leaveR PP ints_rs ms.length (acodeX PP RR [] ints_L ints_b (enterN 26 ints_h args ms)) = some r) : RR 34 args ms = some r := R_runN (T := TT) (h := ints_h) (fn := Try.f34) (c := ints_b) (by kernel_rfl) Try.func34 (by kernel_rfl) (by kernel_rfl) (by kernel_rfl) (by kernel_rfl) rfl e
noncomputable def ints_l4 : Code := (cL (cK (cB (cA (cB (cB ints_b))))))
noncomputable def ints_k4 : Code := (cB (cB (cB ints_b)))
noncomputable def ints_X4 : St → Out := loopX PP RR [] ints_h.at ints_b 4 ints_l4
theorem ints_q4 (st : St) : ints_L 4 st = ints_X4 (St.forget (ints_h.at 4) st) := loop_X (i := 0) (fun _ => rfl) (by kernel_rfl) (by kernel_rfl) 4 (by kernel_rfl) st
theorem ints_e4 (st : St) : ints_X4 st = thenC (acodeX PP RR [] ints_L ints_l4 st) (ints_L 4) := rfl
abbrev ints_t4 (t0 t1 t5 : AV) (ms : List Mem) : St := ⟨[t0, t1, .junk, .junk, .junk, t5, .junk, .junk, .junk, .junk, .junk, .junk, .junk, .junk, .junk, .junk, .junk, .junk, .junk, .junk, .junk, .junk, .junk, .junk, .junk, .junk], ms⟩
/-! ### errata/erratalaw16.col: 37 -/
noncomputable def mkcol_b : Code := (Try.f37.body).getD .skip
noncomputable def mkcol_L : Nat → St → Out := loopsOf PP RR mkcol_h.at mkcol_b
abbrev mkcol_rs : List ResultVar := [.cell 2 25]
theorem mkcol_r {args : List AV} {ms : List Mem} {r : AV × List Mem} (e : leaveR PP mkcol_rs ms.length (acodeX PP RR [] mkcol_L mkcol_b (enterN 5 mkcol_h args ms)) = some r) : RR 37 args ms = some r := R_runN (T := TT) (h := mkcol_h) (fn := Try.f37) (c := mkcol_b) (by kernel_rfl) Try.func37 (by kernel_rfl) (by kernel_rfl) (by kernel_rfl) (by kernel_rfl) rfl e
/-! ### errata/erratalaw16.op: 38 -/
noncomputable def mkop_b : Code := (Try.f38.body).getD .skip
noncomputable def mkop_L : Nat → St → Out := loopsOf PP RR mkop_h.at mkop_b
abbrev mkop_rs : List ResultVar := [.cell 4 25]
theorem mkop_r {args : List AV} {ms : List Mem} {r : AV × List Mem} (e : leaveR PP mkop_rs ms.length (acodeX PP RR [] mkop_L mkop_b (enterN 8 mkop_h args ms)) = some r) : RR 38 args ms = some r := R_runN (T := TT) (h := mkop_h) (fn := Try.f38) (c := mkop_b) (by kernel_rfl) Try.func38 (by kernel_rfl) (by kernel_rfl) (by kernel_rfl) (by kernel_rfl) rfl e
/-! ### errata/erratalaw16.num: 39 -/
noncomputable def mknum_b : Code := (Try.f39.body).getD .skip
noncomputable def mknum_L : Nat → St → Out := loopsOf PP RR mknum_h.at mknum_b
abbrev mknum_rs : List ResultVar := [.cell 2 25]
theorem mknum_r {args : List AV} {ms : List Mem} {r : AV × List Mem} (e : leaveR PP mknum_rs ms.length (acodeX PP RR [] mknum_L mknum_b (enterN 5 mknum_h args ms)) = some r) : RR 39 args ms = some r := R_runN (T := TT) (h := mknum_h) (fn := Try.f39) (c := mknum_b) (by kernel_rfl) Try.func39 (by kernel_rfl) (by kernel_rfl) (by kernel_rfl) (by kernel_rfl) rfl e
/-! ### errata/erratalaw16.least: 40 -/
noncomputable def least_b : Code := (Try.f40.body).getD .skip
noncomputable def least_L : Nat → St → Out := loopsOf PP RR least_h.at least_b
abbrev least_rs : List ResultVar := [.tmp 0]
theorem least_r {args : List AV} {ms : List Mem} {r : AV × List Mem} (e : leaveR PP least_rs ms.length (acodeX PP RR [] least_L least_b (enterN 16 least_h args ms)) = some r) : RR 40 args ms = some r := R_runN (T := TT) (h := least_h) (fn := Try.f40) (c := least_b) (by kernel_rfl) Try.func40 (by kernel_rfl) (by kernel_rfl) (by kernel_rfl) (by kernel_rfl) rfl e
/-! ### errata/expr.Type: 11 -/
noncomputable def xType_b : Code := (Try.f11.body).getD .skip
noncomputable def xType_L : Nat → St → Out := loopsOf PP RR xType_h.at xType_b
abbrev xType_rs : List ResultVar := [.tmp 8, .tmp 9]
theorem xType_r {args : List AV} {ms : List Mem} {r : AV × List Mem} (e : leaveR PP xType_rs ms.length (acodeX PP RR [] xType_L xType_b (enterN 21 xType_h args ms)) = some r) : RR 11 args ms = some r := R_runN (T := TT) (h := xType_h) (fn := Try.f11) (c := xType_b) (by kernel_rfl) Try.func11 (by kernel_rfl) (by kernel_rfl) (by kernel_rfl) (by kernel_rfl) rfl e
/-! ### errata/expr.Eval: 13 -/
noncomputable def xEval_b : Code := (Try.f13.body).getD .skip
noncomputable def xEval_L : Nat → St → Out := loopsOf PP RR xEval_h.at xEval_b
abbrev xEval_rs : List ResultVar := [.cell 8 34]
theorem xEval_r {args : List AV} {ms : List Mem} {r : AV × List Mem} (e : leaveR PP xEval_rs ms.length (acodeX PP RR [] xEval_L xEval_b (enterN 15 xEval_h args ms)) = some r) : RR 13 args ms = some r := R_runN (T := TT) (h := xEval_h) (fn := Try.f13) (c := xEval_b) (by kernel_rfl) Try.func13 (by kernel_rfl) (by kernel_rfl) (by kernel_rfl) (by kernel_rfl) rfl e
/-! ### errata/expr.Steps: 15 -/
noncomputable def xSteps_b : Code := (Try.f15.body).getD .skip
noncomputable def xSteps_L : Nat → St → Out := loopsOf PP RR xSteps_h.at xSteps_b
abbrev xSteps_rs : List ResultVar := [.tmp 4]
theorem xSteps_r {args : List AV} {ms : List Mem} {r : AV × List Mem} (e : leaveR PP xSteps_rs ms.length (acodeX PP RR [] xSteps_L xSteps_b (enterN 25 xSteps_h args ms)) = some r) : RR 15 args ms = some r := R_runN (T := TT) (h := xSteps_h) (fn := Try.f15) (c := xSteps_b) (by kernel_rfl) Try.func15 (by kernel_rfl) (by kernel_rfl) (by kernel_rfl) (by kernel_rfl) rfl e
noncomputable def xSteps_l3 : Code := (cL (cK (cB (cA (cB (cB xSteps_b))))))
noncomputable def xSteps_k3 : Code := (cB (cB (cB xSteps_b)))
noncomputable def xSteps_X3 : St → Out := loopX PP RR [] xSteps_h.at xSteps_b 3 xSteps_l3
theorem xSteps_q3 (st : St) : xSteps_L 3 st = xSteps_X3 (St.forget (xSteps_h.at 3) st) := loop_X (i := 0) (fun _ => rfl) (by kernel_rfl) (by kernel_rfl) 3 (by kernel_rfl) st
theorem xSteps_e3 (st : St) : xSteps_X3 st = thenC (acodeX PP RR [] xSteps_L xSteps_l3 st) (xSteps_L 3) := rfl
abbrev xSteps_t3 (t3 t5 t8 t9 t10 : AV) (ms : List Mem) : St := ⟨[.junk, .junk, .junk, t3, .junk, t5, .junk, .junk, t8, t9, t10, .junk, .junk, .junk, .junk, .junk, .junk, .junk, .junk, .junk, .junk, .junk, .junk, .junk, .junk], ms⟩
/-! ### errata/expr.Replace: 19 -/
noncomputable def xReplace_b : Code := (Try.f19.body).getD .skip
noncomputable def xReplace_L : Nat → St → Out := loopsOf PP RR xReplace_h.at xReplace_b
abbrev xReplace_rs : List ResultVar := [.cell 4 25, .tmp 5]
theorem xReplace_r {args : List AV} {ms : List Mem} {r : AV × List Mem} (e : leaveR PP xReplace_rs ms.length (acodeX PP RR [] xReplace_L xReplace_b (enterN 23 xReplace_h args ms)) = some r) : RR 19 args ms = some r := R_runN (T := TT) (h := xReplace_h) (fn := Try.f19) (c := xReplace_b) (by kernel_rfl) Try.func19 (by kernel_rfl) (by kernel_rfl) (by kernel_rfl) (by kernel_rfl) rfl e
/-! ### errata/expr.Inline: 21 -/
noncomputable def xInline_b : Code := (Try.f21.body).getD .skip
noncomputable def xInline_L : Nat → St → Out := loopsOf PP RR xInline_h.at xInline_b
abbrev xInline_rs : List ResultVar := [.cell 4 25, .tmp 5]
theorem xInline_r {args : List AV} {ms : List Mem} {r : AV × List Mem} (e : leaveR PP xInline_rs ms.length (acodeX PP RR [] xInline_L xInline_b (enterN 39 xInline_h args ms)) = some r) : RR 21 args ms = some r := R_runN (T := TT) (h := xInline_h) (fn := Try.f21) (c := xInline_b) (by kernel_rfl) Try.func21 (by kernel_rfl) (by kernel_rfl) (by kernel_rfl) (by kernel_rfl) rfl e
noncomputable def xInline_l3 : Code := (cL (cK (cB (cA (cB (cB xInline_b))))))
noncomputable def xInline_k3 : Code := (cB (cB (cB xInline_b)))
noncomputable def xInline_X3 : St → Out := loopX PP RR [] xInline_h.at xInline_b 3 xInline_l3
theorem xInline_q3 (st : St) : xInline_L 3 st = xInline_X3 (St.forget (xInline_h.at 3) st) := loop_X (i := 0) (fun _ => rfl) (by kernel_rfl) (by kernel_rfl) 3 (by kernel_rfl) st
theorem xInline_e3 (st : St) : xInline_X3 st = thenC (acodeX PP RR [] xInline_L xInline_l3 st) (xInline_L 3) := rfl
abbrev xInline_t3 (t3 t4 t6 t10 t11 t12 : AV) (ms : List Mem) : St := ⟨[.junk, .junk, .junk, t3, t4, .junk, t6, .junk, .junk, .junk, t10, t11, t12, .junk, .junk, .junk, .junk, .junk, .junk, .junk, .junk, .junk, .junk, .junk, .junk, .junk, .junk, .junk, .junk, .junk, .junk, .junk, .junk, .junk, .junk, .junk, .junk, .junk, .junk], ms⟩
/-! ### errata/expr.Timed: 26 -/
noncomputable def xTimed_b : Code := (Try.f26.body).getD .skip
noncomputable def xTimed_L : Nat → St → Out := loopsOf PP RR xTimed_h.at xTimed_b
abbrev xTimed_rs : List ResultVar := [.tmp 4]
theorem xTimed_r {args : List AV} {ms : List Mem} {r : AV × List Mem} (e : leaveR PP xTimed_rs ms.length (acodeX PP RR [] xTimed_L xTimed_b (enterN 27 xTimed_h args ms)) = some r) : RR 26 args ms = some r := R_runN (T := TT) (h := xTimed_h) (fn := Try.f26) (c := xTimed_b) (by kernel_rfl) Try.func26 (by kernel_rfl) (by kernel_rfl) (by kernel_rfl) (by kernel_rfl) rfl e
noncomputable def xTimed_l4 : Code := (cL (cK (cB (cA (cB (cB (cB xTimed_b)))))))
noncomputable def xTimed_k4 : Code := (cB (cB (cB (cB xTimed_b))))
noncomputable def xTimed_X4 : St → Out := loopX PP RR [] xTimed_h.at xTimed_b 4 xTimed_l4
theorem xTimed_q4 (st : St) : xTimed_L 4 st = xTimed_X4 (St.forget (xTimed_h.at 4) st) := loop_X (i := 0) (fun _ => rfl) (by kernel_rfl) (by kernel_rfl) 4 (by kernel_rfl) st
theorem xTimed_e4 (st : St) : xTimed_X4 st = thenC (acodeX PP RR [] xTimed_L xTimed_l4 st) (xTimed_L 4) := rfl
abbrev xTimed_t4 (t3 t5 t6 t10 t11 t12 : AV) (ms : List Mem) : St := ⟨[.junk, .junk, .junk, t3, .junk, t5, t6, .junk, .junk, .junk, t10, t11, t12, .junk, .junk, .junk, .junk, .junk, .junk, .junk, .junk, .junk, .junk, .junk, .junk, .junk, .junk], ms⟩
/-! ### errata/expr.Right: 32 -/
noncomputable def xRight_b : Code := (Try.f32.body).getD .skip
noncomputable def xRight_L : Nat → St → Out := loopsOf PP RR xRight_h.at xRight_b
abbrev xRight_rs : List ResultVar := [.tmp 2]
theorem xRight_r {args : List AV} {ms : List Mem} {r : AV × List Mem} (e : leaveR PP xRight_rs ms.length (acodeX PP RR [] xRight_L xRight_b (enterN 49 xRight_h args ms)) = some r) : RR 32 args ms = some r := R_runN (T := TT) (h := xRight_h) (fn := Try.f32) (c := xRight_b) (by kernel_rfl) Try.func32 (by kernel_rfl) (by kernel_rfl) (by kernel_rfl) (by kernel_rfl) rfl e
noncomputable def xRight_l4 : Code := (cL (cK (cB (cA (cB (cB xRight_b))))))
noncomputable def xRight_k4 : Code := (cB (cB (cB xRight_b)))
noncomputable def xRight_X4 : St → Out := loopX PP RR [] xRight_h.at xRight_b 4 xRight_l4
theorem xRight_q4 (st : St) : xRight_L 4 st = xRight_X4 (St.forget (xRight_h.at 4) st) := loop_X (i := 0) (fun _ => rfl) (by kernel_rfl) (by kernel_rfl) 4 (by kernel_rfl) st
theorem xRight_e4 (st : St) : xRight_X4 st = thenC (acodeX PP RR [] xRight_L xRight_l4 st) (xRight_L 4) := rfl
abbrev xRight_t4 (t0 t11 t12 t13 : AV) (ms : List Mem) : St := ⟨[t0, .junk, .junk, .junk, .junk, .junk, .junk, .junk, .junk, .junk, .junk, t11, t12, t13, .junk, .junk, .junk, .junk, .junk, .junk, .junk, .junk, .junk, .junk, .junk, .junk, .junk, .junk, .junk, .junk, .junk, .junk, .junk, .junk, .junk, .junk, .junk, .junk, .junk, .junk, .junk, .junk, .junk, .junk, .junk, .junk, .junk, .junk, .junk], ms⟩
/-! ### errata/expr.Same: 36 -/
noncomputable def xSame_b : Code := (Try.f36.body).getD .skip
noncomputable def xSame_L : Nat → St → Out := loopsOf PP RR xSame_h.at xSame_b
abbrev xSame_rs : List ResultVar := [.tmp 4]
theorem xSame_r {args : List AV} {ms : List Mem} {r : AV × List Mem} (e : leaveR PP xSame_rs ms.length (acodeX PP RR [] xSame_L xSame_b (enterN 31 xSame_h args ms)) = some r) : RR 36 args ms = some r := R_runN (T := TT) (h := xSame_h) (fn := Try.f36) (c := xSame_b) (by kernel_rfl) Try.func36 (by kernel_rfl) (by kernel_rfl) (by kernel_rfl) (by kernel_rfl) rfl e
/-! ### (errata/expr.scope).typed: 41 -/
noncomputable def typed_b : Code := (Try.f41.body).getD .skip
noncomputable def typed_L : Nat → St → Out := loopsOf PP RR typed_h.at typed_b
abbrev typed_rs : List ResultVar := [.tmp 4, .tmp 5]
theorem typed_r {args : List AV} {ms : List Mem} {r : AV × List Mem} (e : leaveR PP typed_rs ms.length (acodeX PP RR [] typed_L typed_b (enterN 19 typed_h args ms)) = some r) : RR 41 args ms = some r := R_runN (T := TT) (h := typed_h) (fn := Try.f41) (c := typed_b) (by kernel_rfl) Try.func41 (by kernel_rfl) (by kernel_rfl) (by kernel_rfl) (by kernel_rfl) rfl e
/-! ### (errata/expr.frame).eval: 42 -/
noncomputable def feval_b : Code := (Try.f42.body).getD .skip
noncomputable def feval_L : Nat → St → Out := loopsOf PP RR feval_h.at feval_b
abbrev feval_rs : List ResultVar := [.cell 4 34]
theorem feval_r {args : List AV} {ms : List Mem} {r : AV × List Mem} (e : leaveR PP feval_rs ms.length (acodeX PP RR [] feval_L feval_b (enterN 139 feval_h args ms)) = some r) : RR 42 args ms = some r := R_runN (T := TT) (h := feval_h) (fn := Try.f42) (c := feval_b) (by kernel_rfl) Try.func42 (by kernel_rfl) (by kernel_rfl) (by kernel_rfl) (by kernel_rfl) rfl e
noncomputable def feval_l7 : Code := (cL (cK (cB (cA (cB (cB (cB feval_b)))))))
noncomputable def feval_k7 : Code := (cB (cB (cB (cB feval_b))))
noncomputable def feval_X7 : St → Out := loopX PP RR [] feval_h.at feval_b 7 feval_l7
theorem feval_q7 (st : St) : feval_L 7 st = feval_X7 (St.forget (feval_h.at 7) st) := loop_X (i := 0) (fun _ => rfl) (by kernel_rfl) (by kernel_rfl) 7 (by kernel_rfl) st
theorem feval_e7 (st : St) : feval_X7 st = thenC (acodeX PP RR [] feval_L feval_l7 st) (feval_L 7) := rfl
abbrev feval_t7 (t2 t3 t4 t5 t33 t34 t35 : AV) (ms : List Mem) : St := ⟨[.junk, .junk, t2, t3, t4, t5, .junk, .junk, .junk, .junk, .junk, .junk, .junk, .junk, .junk, .junk, .junk, .junk, .junk, .junk, .junk, .junk, .junk, .junk, .junk, .junk, .junk, .junk, .junk, .junk, .junk, .junk, .junk, t33, t34, t35, .junk, .junk, .junk, .junk, .junk, .junk, .junk, .junk, .junk, .junk, .junk, .junk, .junk, .junk, .junk, .junk, .junk, .junk, .junk, .junk, .junk, .junk, .junk, .junk, .junk, .junk, .junk, .junk, .junk, .junk, .junk, .junk, .junk, .junk, .junk, .junk, .junk, .junk, .junk, .junk, .junk, .junk, .junk, .junk, .junk, .junk, .junk, .junk, .junk, .junk, .junk, .junk, .junk, .junk, .junk, .junk, .junk, .junk, .junk, .junk, .junk, .junk, .junk, .junk, .junk, .junk, .junk, .junk, .junk, .junk, .junk, .junk, .junk, .junk, .junk, .junk, .junk, .junk, .junk, .junk, .junk, .junk, .junk, .junk, .junk, .junk, .junk, .junk, .junk, .junk, .junk, .junk, .junk, .junk, .junk, .junk, .junk, .junk, .junk, .junk, .junk, .junk, .junk], ms⟩
/-! ### errata/expr.steps: 43 -/
noncomputable def steps_b : Code := (Try.f43.body).getD .skip
noncomputable def steps_L : Nat → St → Out := loopsOf PP RR steps_h.at steps_b
abbrev steps_rs : List ResultVar := [.tmp 4]
theorem steps_r {args : List AV} {ms : List Mem} {r : AV × List Mem} (e : leaveR PP steps_rs ms.length (acodeX PP RR [] steps_L steps_b (enterN 61 steps_h args ms)) = some r) : RR 43 args ms = some r := R_runN (T := TT) (h := steps_h) (fn := Try.f43) (c := steps_b) (by kernel_rfl) Try.func43 (by kernel_rfl) (by kernel_rfl) (by kernel_rfl) (by kernel_rfl) rfl e
noncomputable def steps_l3 : Code := (cL (cK (cB (cA (cB (cB steps_b))))))
noncomputable def steps_k3 : Code := (cB (cB (cB steps_b)))
noncomputable def steps_X3 : St → Out := loopX PP RR [] steps_h.at steps_b 3 steps_l3
theorem steps_q3 (st : St) : steps_L 3 st = steps_X3 (St.forget (steps_h.at 3) st) := loop_X (i := 0) (fun _ => rfl) (by kernel_rfl) (by kernel_rfl) 3 (by kernel_rfl) st
theorem steps_e3 (st : St) : steps_X3 st = thenC (acodeX PP RR [] steps_L steps_l3 st) (steps_L 3) := rfl
abbrev steps_t3 (t0 t3 t5 t12 t13 t14 : AV) (ms : List Mem) : St := ⟨[t0, .junk, .junk, t3, .junk, t5, .junk, .junk, .junk, .junk, .junk, .junk, t12, t13, t14, .junk, .junk, .junk, .junk, .junk, .junk, .junk, .junk, .junk, .junk, .junk, .junk, .junk, .junk, .junk, .junk, .junk, .junk, .junk, .junk, .junk, .junk, .junk, .junk, .junk, .junk, .junk, .junk, .junk, .junk, .junk, .junk, .junk, .junk, .junk, .junk, .junk, .junk, .junk, .junk, .junk, .junk, .junk, .junk, .junk, .junk], ms⟩
noncomputable def steps_l13 : Code := (cL (cK (cB (cA (cB (cB (cB (cB (cB (cB steps_b))))))))))
noncomputable def steps_k13 : Code := (cB (cB (cB (cB (cB (cB (cB steps_b)))))))
noncomputable def steps_X13 : St → Out := loopX PP RR [] steps_h.at steps_b 13 steps_l13
theorem steps_q13 (st : St) : steps_L 13 st = steps_X13 (St.forget (steps_h.at 13) st) := loop_X (i := 1) (fun _ => rfl) (by kernel_rfl) (by kernel_rfl) 13 (by kernel_rfl) st
theorem steps_e13 (st : St) : steps_X13 st = thenC (acodeX PP RR [] steps_L steps_l13 st) (steps_L 13) := rfl
abbrev steps_t13 (t8 t50 t51 t52 : AV) (ms : List Mem) : St := ⟨[.junk, .junk, .junk, .junk, .junk, .junk, .junk, .junk, t8, .junk, .junk, .junk, .junk, .junk, .junk, .junk, .junk, .junk, .junk, .junk, .junk, .junk, .junk, .junk, .junk, .junk, .junk, .junk, .junk, .junk, .junk, .junk, .junk, .junk, .junk, .junk, .junk, .junk, .junk, .junk, .junk, .junk, .junk, .junk, .junk, .junk, .junk, .junk, .junk, .junk, t50, t51, t52, .junk, .junk, .junk, .junk, .junk, .junk, .junk, .junk], ms⟩
/-! ### errata/expr.put: 45 -/
noncomputable def put_b : Code := (Try.f45.body).getD .skip
noncomputable def put_L : Nat → St → Out := loopsOf PP RR put_h.at put_b
abbrev put_rs : List ResultVar := [.cell 6 25, .tmp 7]
theorem put_r {args : List AV} {ms : List Mem} {r : AV × List Mem} (e : leaveR PP put_rs ms.length (acodeX PP RR [] put_L put_b (enterN 66 put_h args ms)) = some r) : RR 45 args ms = some r := R_runN (T := TT) (h := put_h) (fn := Try.f45) (c := put_b) (by kernel_rfl) Try.func45 (by kernel_rfl) (by kernel_rfl) (by kernel_rfl) (by kernel_rfl) rfl e
noncomputable def put_l7 : Code := (cL (cK (cB (cA (cB (cB (cB put_b)))))))
noncomputable def put_k7 : Code := (cB (cB (cB (cB put_b))))
noncomputable def put_X7 : St → Out := loopX PP RR [] put_h.at put_b 7 put_l7
theorem put_q7 (st : St) : put_L 7 st = put_X7 (St.forget (put_h.at 7) st) := loop_X (i := 0) (fun _ => rfl) (by kernel_rfl) (by kernel_rfl) 7 (by kernel_rfl) st
theorem put_e7 (st : St) : put_X7 st = thenC (acodeX PP RR [] put_L put_l7 st) (put_L 7) := rfl
abbrev put_t7 (t1 t2 t6 t8 t42 t43 t44 : AV) (ms : List Mem) : St := ⟨[.junk, t1, t2, .junk, .junk, .junk, t6, .junk, t8, .junk, .junk, .junk, .junk, .junk, .junk, .junk, .junk, .junk, .junk, .junk, .junk, .junk, .junk, .junk, .junk, .junk, .junk, .junk, .junk, .junk, .junk, .junk, .junk, .junk, .junk, .junk, .junk, .junk, .junk, .junk, .junk, .junk, t42, t43, t44, .junk, .junk, .junk, .junk, .junk, .junk, .junk, .junk, .junk, .junk, .junk, .junk, .junk, .junk, .junk, .junk, .junk, .junk, .junk, .junk, .junk], ms⟩
/-! ### errata/expr.levels: 46 -/
noncomputable def levels_b : Code := (Try.f46.body).getD .skip
noncomputable def levels_L : Nat → St → Out := loopsOf PP RR levels_h.at levels_b
abbrev levels_rs : List ResultVar := [.tmp 2]
theorem levels_r {args : List AV} {ms : List Mem} {r : AV × List Mem} (e : leaveR PP levels_rs ms.length (acodeX PP RR [] levels_L levels_b (enterN 20 levels_h args ms)) = some r) : RR 46 args ms = some r := R_runN (T := TT) (h := levels_h) (fn := Try.f46) (c := levels_b) (by kernel_rfl) Try.func46 (by kernel_rfl) (by kernel_rfl) (by kernel_rfl) (by kernel_rfl) rfl e
noncomputable def levels_l3 : Code := (cL (cK (cB (cA (cB (cB levels_b))))))
noncomputable def levels_k3 : Code := (cB (cB (cB levels_b)))
noncomputable def levels_X3 : St → Out := loopX PP RR [] levels_h.at levels_b 3 levels_l3
theorem levels_q3 (st : St) : levels_L 3 st = levels_X3 (St.forget (levels_h.at 3) st) := loop_X (i := 0) (fun _ => rfl) (by kernel_rfl) (by kernel_rfl) 3 (by kernel_rfl) st
theorem levels_e3 (st : St) : levels_X3 st = thenC (acodeX PP RR [] levels_L levels_l3 st) (levels_L 3) := rfl
abbrev levels_t3 (t3 t7 t8 t9 : AV) (ms : List Mem) : St := ⟨[.junk, .junk, .junk, t3, .junk, .junk, .junk, t7, t8, t9, .junk, .junk, .junk, .junk, .junk, .junk, .junk, .junk, .junk, .junk], ms⟩
/-! ### errata/expr.inline: 48 -/
noncomputable def inline_b : Code := (Try.f48.body).getD .skip
noncomputable def inline_L : Nat → St → Out := loopsOf PP RR inline_h.at inline_b
abbrev inline_rs : List ResultVar := [.cell 4 73]
theorem inline_r {args : List AV} {ms : List Mem} {r : AV × List Mem} (e : leaveR PP inline_rs ms.length (acodeX PP RR [] inline_L inline_b (enterN 68 inline_h args ms)) = some r) : RR 48 args ms = some r := R_runN (T := TT) (h := inline_h) (fn := Try.f48) (c := inline_b) (by kernel_rfl) Try.func48 (by kernel_rfl) (by kernel_rfl) (by kernel_rfl) (by kernel_rfl) rfl e
noncomputable def inline_l3 : Code := (cL (cK (cB (cA (cB (cB inline_b))))))
noncomputable def inline_k3 : Code := (cB (cB (cB inline_b)))
noncomputable def inline_X3 : St → Out := loopX PP RR [] inline_h.at inline_b 3 inline_l3
theorem inline_q3 (st : St) : inline_L 3 st = inline_X3 (St.forget (inline_h.at 3) st) := loop_X (i := 0) (fun _ => rfl) (by kernel_rfl) (by kernel_rfl) 3 (by kernel_rfl) st
theorem inline_e3 (st : St) : inline_X3 st = thenC (acodeX PP RR [] inline_L inline_l3 st) (inline_L 3) := rfl
abbrev inline_t3 (t1 t2 t4 t5 t19 t20 t21 : AV) (ms : List Mem) : St := ⟨[.junk, t1, t2, .junk, t4, t5, .junk, .junk, .junk, .junk, .junk, .junk, .junk, .junk, .junk, .junk, .junk, .junk, .junk, t19, t20, t21, .junk, .junk, .junk, .junk, .junk, .junk, .junk, .junk, .junk, .junk, .junk, .junk, .junk, .junk, .junk, .junk, .junk, .junk, .junk, .junk, .junk, .junk, .junk, .junk, .junk, .junk, .junk, .junk, .junk, .junk, .junk, .junk, .junk, .junk, .junk, .junk, .junk, .junk, .junk, .junk, .junk, .junk, .junk, .junk, .junk, .junk], ms⟩
/-! ### errata/expr.Timed$1: 51 -/
noncomputable def timed1_b : Code := (Try.f51.body).getD .skip
noncomputable def timed1_L : Nat → St → Out := loopsOf PP RR timed1_h.at timed1_b
abbrev timed1_rs : List ResultVar := [.tmp 3]
theorem timed1_r {args : List AV} {ms : List Mem} {r : AV × List Mem} (e : leaveR PP timed1_rs ms.length (acodeX PP RR [] timed1_L timed1_b (enterN 9 timed1_h args ms)) = some r) : RR 51 args ms = some r := R_runN (T := TT) (h := timed1_h) (fn := Try.f51) (c := timed1_b) (by kernel_rfl) Try.func51 (by kernel_rfl) (by kernel_rfl) (by kernel_rfl) (by kernel_rfl) rfl e
/-! ### errata/expr.walk: 52 -/
noncomputable def walk_b : Code := (Try.f52.body).getD .skip
noncomputable def walk_L : Nat → St → Out := loopsOf PP RR walk_h.at walk_b
abbrev walk_rs : List ResultVar := []
theorem walk_r {args : List AV} {ms : List Mem} {r : AV × List Mem} (e : leaveR PP walk_rs ms.length (acodeX PP RR [] walk_L walk_b (enterN 20 walk_h args ms)) = some r) : RR 52 args ms = some r := R_runN (T := TT) (h := walk_h) (fn := Try.f52) (c := walk_b) (by kernel_rfl) Try.func52 (by kernel_rfl) (by kernel_rfl) (by kernel_rfl) (by kernel_rfl) rfl e
noncomputable def walk_l3 : Code := (cL (cK (cB (cB (cB walk_b)))))
noncomputable def walk_k3 : Code := .skip
noncomputable def walk_X3 : St → Out := loopX PP RR [] walk_h.at walk_b 3 walk_l3
theorem walk_q3 (st : St) : walk_L 3 st = walk_X3 (St.forget (walk_h.at 3) st) := loop_X (i := 0) (fun _ => rfl) (by kernel_rfl) (by kernel_rfl) 3 (by kernel_rfl) st
theorem walk_e3 (st : St) : walk_X3 st = thenC (acodeX PP RR [] walk_L walk_l3 st) (walk_L 3) := rfl
abbrev walk_t3 (t1 t10 t11 t12 : AV) (ms : List Mem) : St := ⟨[.junk, t1, .junk, .junk, .junk, .junk, .junk, .junk, .junk, .junk, t10, t11, t12, .junk, .junk, .junk, .junk, .junk, .junk, .junk], ms⟩
/-! ### errata/expr.Timed$1$1: 53 -/
noncomputable def timed11_b : Code := (Try.f53.body).getD .skip
noncomputable def timed11_L : Nat → St → Out := loopsOf PP RR timed11_h.at timed11_b
abbrev timed11_rs : List ResultVar := []
theorem timed11_r {args : List AV} {ms : List Mem} {r : AV × List Mem} (e : leaveR PP timed11_rs ms.length (acodeX PP RR [] timed11_L timed11_b (enterN 22 timed11_h args ms)) = some r) : RR 53 args ms = some r := R_runN (T := TT) (h := timed11_h) (fn := Try.f53) (c := timed11_b) (by kernel_rfl) Try.func53 (by kernel_rfl) (by kernel_rfl) (by kernel_rfl) (by kernel_rfl) rfl e
/-! ### errata/expr.Right$1: 59 -/
noncomputable def right1_b : Code := (Try.f59.body).getD .skip
noncomputable def right1_L : Nat → St → Out := loopsOf PP RR right1_h.at right1_b
abbrev right1_rs : List ResultVar := [.tmp 2]
theorem right1_r {args : List AV} {ms : List Mem} {r : AV × List Mem} (e : leaveR PP right1_rs ms.length (acodeX PP RR [] right1_L right1_b (enterN 6 right1_h args ms)) = some r) : RR 59 args ms = some r := R_runN (T := TT) (h := right1_h) (fn := Try.f59) (c := right1_b) (by kernel_rfl) Try.func59 (by kernel_rfl) (by kernel_rfl) (by kernel_rfl) (by kernel_rfl) rfl e
/-! ### errata/expr.kind: 60 -/
noncomputable def kind_b : Code := (Try.f60.body).getD .skip
noncomputable def kind_L : Nat → St → Out := loopsOf PP RR kind_h.at kind_b
abbrev kind_rs : List ResultVar := [.tmp 2]
theorem kind_r {args : List AV} {ms : List Mem} {r : AV × List Mem} (e : leaveR PP kind_rs ms.length (acodeX PP RR [] kind_L kind_b (enterN 9 kind_h args ms)) = some r) : RR 60 args ms = some r := R_runN (T := TT) (h := kind_h) (fn := Try.f60) (c := kind_b) (by kernel_rfl) Try.func60 (by kernel_rfl) (by kernel_rfl) (by kernel_rfl) (by kernel_rfl) rfl e
/-! ### slices.ContainsFunc[[]int,int]: 61 -/
noncomputable def contains_b : Code := (Try.f61.body).getD .skip
noncomputable def contains_L : Nat → St → Out := loopsOf PP RR contains_h.at contains_b
abbrev contains_rs : List ResultVar := [.tmp 4]
theorem contains_r {args : List AV} {ms : List Mem} {r : AV × List Mem} (e : leaveR PP contains_rs ms.length (acodeX PP RR [] contains_L contains_b (enterN 9 contains_h args ms)) = some r) : RR 61 args ms = some r := R_runN (T := TT) (h := contains_h) (fn := Try.f61) (c := contains_b) (by kernel_rfl) Try.func61 (by kernel_rfl) (by kernel_rfl) (by kernel_rfl) (by kernel_rfl) rfl e
/-! ### slices.EqualFunc[[]errata/api.Expr,[]errata/api.Expr,errata/api.Expr,errata/api.Expr]: 64 -/
noncomputable def equalFunc_b : Code := (Try.f64.body).getD .skip
noncomputable def equalFunc_L : Nat → St → Out := loopsOf PP RR equalFunc_h.at equalFunc_b
abbrev equalFunc_rs : List ResultVar := [.tmp 6]
theorem equalFunc_r {args : List AV} {ms : List Mem} {r : AV × List Mem} (e : leaveR PP equalFunc_rs ms.length (acodeX PP RR [] equalFunc_L equalFunc_b (enterN 32 equalFunc_h args ms)) = some r) : RR 64 args ms = some r := R_runN (T := TT) (h := equalFunc_h) (fn := Try.f64) (c := equalFunc_b) (by kernel_rfl) Try.func64 (by kernel_rfl) (by kernel_rfl) (by kernel_rfl) (by kernel_rfl) rfl e
noncomputable def equalFunc_l4 : Code := (cL (cK (cB (cA (cB (cB equalFunc_b))))))
noncomputable def equalFunc_k4 : Code := (cB (cB (cB equalFunc_b)))
noncomputable def equalFunc_X4 : St → Out := loopX PP RR [] equalFunc_h.at equalFunc_b 4 equalFunc_l4
theorem equalFunc_q4 (st : St) : equalFunc_L 4 st = equalFunc_X4 (St.forget (equalFunc_h.at 4) st) := loop_X (i := 0) (fun _ => rfl) (by kernel_rfl) (by kernel_rfl) 4 (by kernel_rfl) st
theorem equalFunc_e4 (st : St) : equalFunc_X4 st = thenC (acodeX PP RR [] equalFunc_L equalFunc_l4 st) (equalFunc_L 4) := rfl
abbrev equalFunc_t4 (t1 t2 t15 t16 t17 : AV) (ms : List Mem) : St := ⟨[.junk, t1, t2, .junk, .junk, .junk, .junk, .junk, .junk, .junk, .junk, .junk, .junk, .junk, .junk, t15, t16, t17, .junk, .junk, .junk, .junk, .junk, .junk, .junk, .junk, .junk, .junk, .junk, .junk, .junk, .junk], ms⟩
/-! ### (errata/expr.scope).of: 65 -/
noncomputable def xof_b : Code := (Try.f65.body).getD .skip
noncomputable def xof_L : Nat → St → Out := loopsOf PP RR xof_h.at xof_b
abbrev xof_rs : List ResultVar := [.tmp 4, .tmp 5]
theorem xof_r {args : List AV} {ms : List Mem} {r : AV × List Mem} (e : leaveR PP xof_rs ms.length (acodeX PP RR [] xof_L xof_b (enterN 90 xof_h args ms)) = some r) : RR 65 args ms = some r := R_runN (T := TT) (h := xof_h) (fn := Try.f65) (c := xof_b) (by kernel_rfl) Try.func65 (by kernel_rfl) (by kernel_rfl) (by kernel_rfl) (by kernel_rfl) rfl e
noncomputable def xof_l3 : Code := (cL (cK (cB (cA (cB (cB xof_b))))))
noncomputable def xof_k3 : Code := (cB (cB (cB xof_b)))
noncomputable def xof_X3 : St → Out := loopX PP RR [] xof_h.at xof_b 3 xof_l3
theorem xof_q3 (st : St) : xof_L 3 st = xof_X3 (St.forget (xof_h.at 3) st) := loop_X (i := 0) (fun _ => rfl) (by kernel_rfl) (by kernel_rfl) 3 (by kernel_rfl) st
theorem xof_e3 (st : St) : xof_X3 st = thenC (acodeX PP RR [] xof_L xof_l3 st) (xof_L 3) := rfl
abbrev xof_t3 (t2 t3 t6 t12 t13 t14 : AV) (ms : List Mem) : St := ⟨[.junk, .junk, t2, t3, .junk, .junk, t6, .junk, .junk, .junk, .junk, .junk, t12, t13, t14, .junk, .junk, .junk, .junk, .junk, .junk, .junk, .junk, .junk, .junk, .junk, .junk, .junk, .junk, .junk, .junk, .junk, .junk, .junk, .junk, .junk, .junk, .junk, .junk, .junk, .junk, .junk, .junk, .junk, .junk, .junk, .junk, .junk, .junk, .junk, .junk, .junk, .junk, .junk, .junk, .junk, .junk, .junk, .junk, .junk, .junk, .junk, .junk, .junk, .junk, .junk, .junk, .junk, .junk, .junk, .junk, .junk, .junk, .junk, .junk, .junk, .junk, .junk, .junk, .junk, .junk, .junk, .junk, .junk, .junk, .junk, .junk, .junk, .junk, .junk], ms⟩
/-! ### errata/expr.number: 66 -/
noncomputable def number_b : Code := (Try.f66.body).getD .skip
noncomputable def number_L : Nat → St → Out := loopsOf PP RR number_h.at number_b
abbrev number_rs : List ResultVar := [.cell 2 34]
theorem number_r {args : List AV} {ms : List Mem} {r : AV × List Mem} (e : leaveR PP number_rs ms.length (acodeX PP RR [] number_L number_b (enterN 5 number_h args ms)) = some r) : RR 66 args ms = some r := R_runN (T := TT) (h := number_h) (fn := Try.f66) (c := number_b) (by kernel_rfl) Try.func66 (by kernel_rfl) (by kernel_rfl) (by kernel_rfl) (by kernel_rfl) rfl e
/-! ### errata/expr.truth: 67 -/
noncomputable def truth_b : Code := (Try.f67.body).getD .skip
noncomputable def truth_L : Nat → St → Out := loopsOf PP RR truth_h.at truth_b
abbrev truth_rs : List ResultVar := [.cell 2 34]
theorem truth_r {args : List AV} {ms : List Mem} {r : AV × List Mem} (e : leaveR PP truth_rs ms.length (acodeX PP RR [] truth_L truth_b (enterN 6 truth_h args ms)) = some r) : RR 67 args ms = some r := R_runN (T := TT) (h := truth_h) (fn := Try.f67) (c := truth_b) (by kernel_rfl) Try.func67 (by kernel_rfl) (by kernel_rfl) (by kernel_rfl) (by kernel_rfl) rfl e
/-! ### (errata/expr.pair).add: 68 -/
noncomputable def padd_b : Code := (Try.f68.body).getD .skip
noncomputable def padd_L : Nat → St → Out := loopsOf PP RR padd_h.at padd_b
abbrev padd_rs : List ResultVar := [.cell 2 34]
theorem padd_r {args : List AV} {ms : List Mem} {r : AV × List Mem} (e : leaveR PP padd_rs ms.length (acodeX PP RR [] padd_L padd_b (enterN 11 padd_h args ms)) = some r) : RR 68 args ms = some r := R_runN (T := TT) (h := padd_h) (fn := Try.f68) (c := padd_b) (by kernel_rfl) Try.func68 (by kernel_rfl) (by kernel_rfl) (by kernel_rfl) (by kernel_rfl) rfl e
/-! ### (errata/expr.pair).sub: 69 -/
noncomputable def psub_b : Code := (Try.f69.body).getD .skip
noncomputable def psub_L : Nat → St → Out := loopsOf PP RR psub_h.at psub_b
abbrev psub_rs : List ResultVar := [.cell 2 34]
theorem psub_r {args : List AV} {ms : List Mem} {r : AV × List Mem} (e : leaveR PP psub_rs ms.length (acodeX PP RR [] psub_L psub_b (enterN 11 psub_h args ms)) = some r) : RR 69 args ms = some r := R_runN (T := TT) (h := psub_h) (fn := Try.f69) (c := psub_b) (by kernel_rfl) Try.func69 (by kernel_rfl) (by kernel_rfl) (by kernel_rfl) (by kernel_rfl) rfl e
/-! ### (errata/expr.pair).mul: 70 -/
noncomputable def pmul_b : Code := (Try.f70.body).getD .skip
noncomputable def pmul_L : Nat → St → Out := loopsOf PP RR pmul_h.at pmul_b
abbrev pmul_rs : List ResultVar := [.cell 2 34]
theorem pmul_r {args : List AV} {ms : List Mem} {r : AV × List Mem} (e : leaveR PP pmul_rs ms.length (acodeX PP RR [] pmul_L pmul_b (enterN 11 pmul_h args ms)) = some r) : RR 70 args ms = some r := R_runN (T := TT) (h := pmul_h) (fn := Try.f70) (c := pmul_b) (by kernel_rfl) Try.func70 (by kernel_rfl) (by kernel_rfl) (by kernel_rfl) (by kernel_rfl) rfl e
/-! ### (errata/expr.pair).div: 71 -/
noncomputable def pdiv_b : Code := (Try.f71.body).getD .skip
noncomputable def pdiv_L : Nat → St → Out := loopsOf PP RR pdiv_h.at pdiv_b
abbrev pdiv_rs : List ResultVar := [.cell 2 34]
theorem pdiv_r {args : List AV} {ms : List Mem} {r : AV × List Mem} (e : leaveR PP pdiv_rs ms.length (acodeX PP RR [] pdiv_L pdiv_b (enterN 16 pdiv_h args ms)) = some r) : RR 71 args ms = some r := R_runN (T := TT) (h := pdiv_h) (fn := Try.f71) (c := pdiv_b) (by kernel_rfl) Try.func71 (by kernel_rfl) (by kernel_rfl) (by kernel_rfl) (by kernel_rfl) rfl e
/-! ### (errata/expr.pair).mod: 72 -/
noncomputable def pmod_b : Code := (Try.f72.body).getD .skip
noncomputable def pmod_L : Nat → St → Out := loopsOf PP RR pmod_h.at pmod_b
abbrev pmod_rs : List ResultVar := [.cell 2 34]
theorem pmod_r {args : List AV} {ms : List Mem} {r : AV × List Mem} (e : leaveR PP pmod_rs ms.length (acodeX PP RR [] pmod_L pmod_b (enterN 16 pmod_h args ms)) = some r) : RR 72 args ms = some r := R_runN (T := TT) (h := pmod_h) (fn := Try.f72) (c := pmod_b) (by kernel_rfl) Try.func72 (by kernel_rfl) (by kernel_rfl) (by kernel_rfl) (by kernel_rfl) rfl e
/-! ### (errata/expr.pair).eq: 73 -/
noncomputable def peq_b : Code := (Try.f73.body).getD .skip
noncomputable def peq_L : Nat → St → Out := loopsOf PP RR peq_h.at peq_b
abbrev peq_rs : List ResultVar := [.cell 2 34]
theorem peq_r {args : List AV} {ms : List Mem} {r : AV × List Mem} (e : leaveR PP peq_rs ms.length (acodeX PP RR [] peq_L peq_b (enterN 9 peq_h args ms)) = some r) : RR 73 args ms = some r := R_runN (T := TT) (h := peq_h) (fn := Try.f73) (c := peq_b) (by kernel_rfl) Try.func73 (by kernel_rfl) (by kernel_rfl) (by kernel_rfl) (by kernel_rfl) rfl e
/-! ### (errata/expr.pair).ne: 74 -/
noncomputable def pne_b : Code := (Try.f74.body).getD .skip
noncomputable def pne_L : Nat → St → Out := loopsOf PP RR pne_h.at pne_b
abbrev pne_rs : List ResultVar := [.cell 2 34]
theorem pne_r {args : List AV} {ms : List Mem} {r : AV × List Mem} (e : leaveR PP pne_rs ms.length (acodeX PP RR [] pne_L pne_b (enterN 9 pne_h args ms)) = some r) : RR 74 args ms = some r := R_runN (T := TT) (h := pne_h) (fn := Try.f74) (c := pne_b) (by kernel_rfl) Try.func74 (by kernel_rfl) (by kernel_rfl) (by kernel_rfl) (by kernel_rfl) rfl e
/-! ### (errata/expr.pair).lt: 75 -/
noncomputable def plt_b : Code := (Try.f75.body).getD .skip
noncomputable def plt_L : Nat → St → Out := loopsOf PP RR plt_h.at plt_b
abbrev plt_rs : List ResultVar := [.cell 2 34]
theorem plt_r {args : List AV} {ms : List Mem} {r : AV × List Mem} (e : leaveR PP plt_rs ms.length (acodeX PP RR [] plt_L plt_b (enterN 10 plt_h args ms)) = some r) : RR 75 args ms = some r := R_runN (T := TT) (h := plt_h) (fn := Try.f75) (c := plt_b) (by kernel_rfl) Try.func75 (by kernel_rfl) (by kernel_rfl) (by kernel_rfl) (by kernel_rfl) rfl e
/-! ### (errata/expr.pair).le: 76 -/
noncomputable def ple_b : Code := (Try.f76.body).getD .skip
noncomputable def ple_L : Nat → St → Out := loopsOf PP RR ple_h.at ple_b
abbrev ple_rs : List ResultVar := [.cell 2 34]
theorem ple_r {args : List AV} {ms : List Mem} {r : AV × List Mem} (e : leaveR PP ple_rs ms.length (acodeX PP RR [] ple_L ple_b (enterN 10 ple_h args ms)) = some r) : RR 76 args ms = some r := R_runN (T := TT) (h := ple_h) (fn := Try.f76) (c := ple_b) (by kernel_rfl) Try.func76 (by kernel_rfl) (by kernel_rfl) (by kernel_rfl) (by kernel_rfl) rfl e
/-! ### (errata/expr.pair).both: 77 -/
noncomputable def pboth_b : Code := (Try.f77.body).getD .skip
noncomputable def pboth_L : Nat → St → Out := loopsOf PP RR pboth_h.at pboth_b
abbrev pboth_rs : List ResultVar := [.cell 2 34]
theorem pboth_r {args : List AV} {ms : List Mem} {r : AV × List Mem} (e : leaveR PP pboth_rs ms.length (acodeX PP RR [] pboth_L pboth_b (enterN 14 pboth_h args ms)) = some r) : RR 77 args ms = some r := R_runN (T := TT) (h := pboth_h) (fn := Try.f77) (c := pboth_b) (by kernel_rfl) Try.func77 (by kernel_rfl) (by kernel_rfl) (by kernel_rfl) (by kernel_rfl) rfl e
/-! ### (errata/expr.pair).any: 78 -/
noncomputable def pany_b : Code := (Try.f78.body).getD .skip
noncomputable def pany_L : Nat → St → Out := loopsOf PP RR pany_h.at pany_b
abbrev pany_rs : List ResultVar := [.cell 2 34]
theorem pany_r {args : List AV} {ms : List Mem} {r : AV × List Mem} (e : leaveR PP pany_rs ms.length (acodeX PP RR [] pany_L pany_b (enterN 14 pany_h args ms)) = some r) : RR 78 args ms = some r := R_runN (T := TT) (h := pany_h) (fn := Try.f78) (c := pany_b) (by kernel_rfl) Try.func78 (by kernel_rfl) (by kernel_rfl) (by kernel_rfl) (by kernel_rfl) rfl e
/-! ### (errata/expr.pair).join: 79 -/
noncomputable def pjoin_b : Code := (Try.f79.body).getD .skip
noncomputable def pjoin_L : Nat → St → Out := loopsOf PP RR pjoin_h.at pjoin_b
abbrev pjoin_rs : List ResultVar := [.cell 2 34]
theorem pjoin_r {args : List AV} {ms : List Mem} {r : AV × List Mem} (e : leaveR PP pjoin_rs ms.length (acodeX PP RR [] pjoin_L pjoin_b (enterN 17 pjoin_h args ms)) = some r) : RR 79 args ms = some r := R_runN (T := TT) (h := pjoin_h) (fn := Try.f79) (c := pjoin_b) (by kernel_rfl) Try.func79 (by kernel_rfl) (by kernel_rfl) (by kernel_rfl) (by kernel_rfl) rfl e
/-! ### errata/expr.plus: 80 -/
noncomputable def plus_b : Code := (Try.f80.body).getD .skip
noncomputable def plus_L : Nat → St → Out := loopsOf PP RR plus_h.at plus_b
abbrev plus_rs : List ResultVar := [.tmp 4]
theorem plus_r {args : List AV} {ms : List Mem} {r : AV × List Mem} (e : leaveR PP plus_rs ms.length (acodeX PP RR [] plus_L plus_b (enterN 9 plus_h args ms)) = some r) : RR 80 args ms = some r := R_runN (T := TT) (h := plus_h) (fn := Try.f80) (c := plus_b) (by kernel_rfl) Try.func80 (by kernel_rfl) (by kernel_rfl) (by kernel_rfl) (by kernel_rfl) rfl e
/-! ### errata/expr.clone: 83 -/
noncomputable def clone_b : Code := (Try.f83.body).getD .skip
noncomputable def clone_L : Nat → St → Out := loopsOf PP RR clone_h.at clone_b
abbrev clone_rs : List ResultVar := [.cell 2 25]
theorem clone_r {args : List AV} {ms : List Mem} {r : AV × List Mem} (e : leaveR PP clone_rs ms.length (acodeX PP RR [] clone_L clone_b (enterN 29 clone_h args ms)) = some r) : RR 83 args ms = some r := R_runN (T := TT) (h := clone_h) (fn := Try.f83) (c := clone_b) (by kernel_rfl) Try.func83 (by kernel_rfl) (by kernel_rfl) (by kernel_rfl) (by kernel_rfl) rfl e
noncomputable def clone_l3 : Code := (cL (cK (cB (cA (cB (cB clone_b))))))
noncomputable def clone_k3 : Code := (cB (cB (cB clone_b)))
noncomputable def clone_X3 : St → Out := loopX PP RR [] clone_h.at clone_b 3 clone_l3
theorem clone_q3 (st : St) : clone_L 3 st = clone_X3 (St.forget (clone_h.at 3) st) := loop_X (i := 0) (fun _ => rfl) (by kernel_rfl) (by kernel_rfl) 3 (by kernel_rfl) st
theorem clone_e3 (st : St) : clone_X3 st = thenC (acodeX PP RR [] clone_L clone_l3 st) (clone_L 3) := rfl
abbrev clone_t3 (t2 t3 t14 t15 t16 : AV) (ms : List Mem) : St := ⟨[.junk, .junk, t2, t3, .junk, .junk, .junk, .junk, .junk, .junk, .junk, .junk, .junk, .junk, t14, t15, t16, .junk, .junk, .junk, .junk, .junk, .junk, .junk, .junk, .junk, .junk, .junk, .junk], ms⟩
/-! ### errata/expr.inline$1: 85 -/
noncomputable def inline1_b : Code := (Try.f85.body).getD .skip
noncomputable def inline1_L : Nat → St → Out := loopsOf PP RR inline1_h.at inline1_b
abbrev inline1_rs : List ResultVar := []
theorem inline1_r {args : List AV} {ms : List Mem} {r : AV × List Mem} (e : leaveR PP inline1_rs ms.length (acodeX PP RR [] inline1_L inline1_b (enterN 5 inline1_h args ms)) = some r) : RR 85 args ms = some r := R_runN (T := TT) (h := inline1_h) (fn := Try.f85) (c := inline1_b) (by kernel_rfl) Try.func85 (by kernel_rfl) (by kernel_rfl) (by kernel_rfl) (by kernel_rfl) rfl e
/-! ### slices.IndexFunc[[]int,int]: 91 -/
noncomputable def indexFunc_b : Code := (Try.f91.body).getD .skip
noncomputable def indexFunc_L : Nat → St → Out := loopsOf PP RR indexFunc_h.at indexFunc_b
abbrev indexFunc_rs : List ResultVar := [.tmp 4]
theorem indexFunc_r {args : List AV} {ms : List Mem} {r : AV × List Mem} (e : leaveR PP indexFunc_rs ms.length (acodeX PP RR [] indexFunc_L indexFunc_b (enterN 19 indexFunc_h args ms)) = some r) : RR 91 args ms = some r := R_runN (T := TT) (h := indexFunc_h) (fn := Try.f91) (c := indexFunc_b) (by kernel_rfl) Try.func91 (by kernel_rfl) (by kernel_rfl) (by kernel_rfl) (by kernel_rfl) rfl e
noncomputable def indexFunc_l2 : Code := (cL (cK (cB (cA (cB indexFunc_b)))))
noncomputable def indexFunc_k2 : Code := (cB (cB indexFunc_b))
noncomputable def indexFunc_X2 : St → Out := loopX PP RR [] indexFunc_h.at indexFunc_b 2 indexFunc_l2
theorem indexFunc_q2 (st : St) : indexFunc_L 2 st = indexFunc_X2 (St.forget (indexFunc_h.at 2) st) := loop_X (i := 0) (fun _ => rfl) (by kernel_rfl) (by kernel_rfl) 2 (by kernel_rfl) st
theorem indexFunc_e2 (st : St) : indexFunc_X2 st = thenC (acodeX PP RR [] indexFunc_L indexFunc_l2 st) (indexFunc_L 2) := rfl
abbrev indexFunc_t2 (t0 t1 t7 t8 : AV) (ms : List Mem) : St := ⟨[t0, t1, .junk, .junk, .junk, .junk, .junk, t7, t8, .junk, .junk, .junk, .junk, .junk, .junk, .junk, .junk, .junk, .junk], ms⟩
/-! ### (errata/expr.scope).leaf: 92 -/
noncomputable def leaf_b : Code := (Try.f92.body).getD .skip
noncomputable def leaf_L : Nat → St → Out := loopsOf PP RR leaf_h.at leaf_b
abbrev leaf_rs : List ResultVar := [.tmp 4, .tmp 5]
theorem leaf_r {args : List AV} {ms : List Mem} {r : AV × List Mem} (e : leaveR PP leaf_rs ms.length (acodeX PP RR [] leaf_L leaf_b (enterN 54 leaf_h args ms)) = some r) : RR 92 args ms = some r := R_runN (T := TT) (h := leaf_h) (fn := Try.f92) (c := leaf_b) (by kernel_rfl) Try.func92 (by kernel_rfl) (by kernel_rfl) (by kernel_rfl) (by kernel_rfl) rfl e
/-! ### slices.Equal[[]int,int]: 93 -/
noncomputable def sEqual_b : Code := (Try.f93.body).getD .skip
noncomputable def sEqual_L : Nat → St → Out := loopsOf PP RR sEqual_h.at sEqual_b
abbrev sEqual_rs : List ResultVar := [.tmp 4]
theorem sEqual_r {args : List AV} {ms : List Mem} {r : AV × List Mem} (e : leaveR PP sEqual_rs ms.length (acodeX PP RR [] sEqual_L sEqual_b (enterN 26 sEqual_h args ms)) = some r) : RR 93 args ms = some r := R_runN (T := TT) (h := sEqual_h) (fn := Try.f93) (c := sEqual_b) (by kernel_rfl) Try.func93 (by kernel_rfl) (by kernel_rfl) (by kernel_rfl) (by kernel_rfl) rfl e
noncomputable def sEqual_l4 : Code := (cL (cK (cB (cA (cB (cB sEqual_b))))))
noncomputable def sEqual_k4 : Code := (cB (cB (cB sEqual_b)))
noncomputable def sEqual_X4 : St → Out := loopX PP RR [] sEqual_h.at sEqual_b 4 sEqual_l4
theorem sEqual_q4 (st : St) : sEqual_L 4 st = sEqual_X4 (St.forget (sEqual_h.at 4) st) := loop_X (i := 0) (fun _ => rfl) (by kernel_rfl) (by kernel_rfl) 4 (by kernel_rfl) st
theorem sEqual_e4 (st : St) : sEqual_X4 st = thenC (acodeX PP RR [] sEqual_L sEqual_l4 st) (sEqual_L 4) := rfl
abbrev sEqual_t4 (t0 t1 t12 t13 : AV) (ms : List Mem) : St := ⟨[t0, t1, .junk, .junk, .junk, .junk, .junk, .junk, .junk, .junk, .junk, .junk, t12, t13, .junk, .junk, .junk, .junk, .junk, .junk, .junk, .junk, .junk, .junk, .junk, .junk], ms⟩
/-! ### errata/expr.operation: 94 -/
noncomputable def operation_b : Code := (Try.f94.body).getD .skip
noncomputable def operation_L : Nat → St → Out := loopsOf PP RR operation_h.at operation_b
abbrev operation_rs : List ResultVar := [.tmp 4, .tmp 5]
theorem operation_r {args : List AV} {ms : List Mem} {r : AV × List Mem} (e : leaveR PP operation_rs ms.length (acodeX PP RR [] operation_L operation_b (enterN 78 operation_h args ms)) = some r) : RR 94 args ms = some r := R_runN (T := TT) (h := operation_h) (fn := Try.f94) (c := operation_b) (by kernel_rfl) Try.func94 (by kernel_rfl) (by kernel_rfl) (by kernel_rfl) (by kernel_rfl) rfl e
/-! ### errata/expr.operation$1: 103 -/
noncomputable def operation1_b : Code := (Try.f103.body).getD .skip
noncomputable def operation1_L : Nat → St → Out := loopsOf PP RR operation1_h.at operation1_b
abbrev operation1_rs : List ResultVar := [.tmp 5]
theorem operation1_r {args : List AV} {ms : List Mem} {r : AV × List Mem} (e : leaveR PP operation1_rs ms.length (acodeX PP RR [] operation1_L operation1_b (enterN 18 operation1_h args ms)) = some r) : RR 103 args ms = some r := R_runN (T := TT) (h := operation1_h) (fn := Try.f103) (c := operation1_b) (by kernel_rfl) Try.func103 (by kernel_rfl) (by kernel_rfl) (by kernel_rfl) (by kernel_rfl) rfl e
/-! ### errata/expr.operation$1$1: 104 -/
noncomputable def operation11_b : Code := (Try.f104.body).getD .skip
noncomputable def operation11_L : Nat → St → Out := loopsOf PP RR operation11_h.at operation11_b
abbrev operation11_rs : List ResultVar := [.tmp 3]
theorem operation11_r {args : List AV} {ms : List Mem} {r : AV × List Mem} (e : leaveR PP operation11_rs ms.length (acodeX PP RR [] operation11_L operation11_b (enterN 7 operation11_h args ms)) = some r) : RR 104 args ms = some r := R_runN (T := TT) (h := operation11_h) (fn := Try.f104) (c := operation11_b) (by kernel_rfl) Try.func104 (by kernel_rfl) (by kernel_rfl) (by kernel_rfl) (by kernel_rfl) rfl e
/-! ### errata/expr.pick: 102 -/
noncomputable def pick_b : Code := (Try.f102.body).getD .skip
noncomputable def pick_L : Nat → St → Out := loopsOf PP RR pick_h.at pick_b
abbrev pick_rs : List ResultVar := [.tmp 4, .tmp 5]
theorem pick_r {args : List AV} {ms : List Mem} {r : AV × List Mem} (e : leaveR PP pick_rs ms.length (acodeX PP RR [] pick_L pick_b (enterN 26 pick_h args ms)) = some r) : RR 102 args ms = some r := R_runN (T := TT) (h := pick_h) (fn := Try.f102) (c := pick_b) (by kernel_rfl) Try.func102 (by kernel_rfl) (by kernel_rfl) (by kernel_rfl) (by kernel_rfl) rfl e
/-! ### errata/value.Compare: 95 -/
noncomputable def vCompare_b : Code := (Try.f95.body).getD .skip
noncomputable def vCompare_L : Nat → St → Out := loopsOf PP RR vCompare_h.at vCompare_b
abbrev vCompare_rs : List ResultVar := [.tmp 4]
theorem vCompare_r {args : List AV} {ms : List Mem} {r : AV × List Mem} (e : leaveR PP vCompare_rs ms.length (acodeX PP RR [] vCompare_L vCompare_b (enterN 22 vCompare_h args ms)) = some r) : RR 95 args ms = some r := R_runN (T := TT) (h := vCompare_h) (fn := Try.f95) (c := vCompare_b) (by kernel_rfl) Try.func95 (by kernel_rfl) (by kernel_rfl) (by kernel_rfl) (by kernel_rfl) rfl e
/-! ### cmp.Or[int]: 105 -/
noncomputable def cmpOr_b : Code := (Try.f105.body).getD .skip
noncomputable def cmpOr_L : Nat → St → Out := loopsOf PP RR cmpOr_h.at cmpOr_b
abbrev cmpOr_rs : List ResultVar := [.tmp 2]
theorem cmpOr_r {args : List AV} {ms : List Mem} {r : AV × List Mem} (e : leaveR PP cmpOr_rs ms.length (acodeX PP RR [] cmpOr_L cmpOr_b (enterN 18 cmpOr_h args ms)) = some r) : RR 105 args ms = some r := R_runN (T := TT) (h := cmpOr_h) (fn := Try.f105) (c := cmpOr_b) (by kernel_rfl) Try.func105 (by kernel_rfl) (by kernel_rfl) (by kernel_rfl) (by kernel_rfl) rfl e
noncomputable def cmpOr_l3 : Code := (cL (cK (cB (cA (cB (cB cmpOr_b))))))
noncomputable def cmpOr_k3 : Code := (cB (cB (cB cmpOr_b)))
noncomputable def cmpOr_X3 : St → Out := loopX PP RR [] cmpOr_h.at cmpOr_b 3 cmpOr_l3
theorem cmpOr_q3 (st : St) : cmpOr_L 3 st = cmpOr_X3 (St.forget (cmpOr_h.at 3) st) := loop_X (i := 0) (fun _ => rfl) (by kernel_rfl) (by kernel_rfl) 3 (by kernel_rfl) st
theorem cmpOr_e3 (st : St) : cmpOr_X3 st = thenC (acodeX PP RR [] cmpOr_L cmpOr_l3 st) (cmpOr_L 3) := rfl
abbrev cmpOr_t3 (t3 t6 t7 t8 : AV) (ms : List Mem) : St := ⟨[.junk, .junk, .junk, t3, .junk, .junk, t6, t7, t8, .junk, .junk, .junk, .junk, .junk, .junk, .junk, .junk, .junk], ms⟩
/-! ### cmp.Compare[int]: 106 -/
noncomputable def cmpCompare_b : Code := (Try.f106.body).getD .skip
noncomputable def cmpCompare_L : Nat → St → Out := loopsOf PP RR cmpCompare_h.at cmpCompare_b
abbrev cmpCompare_rs : List ResultVar := [.tmp 4]
theorem cmpCompare_r {args : List AV} {ms : List Mem} {r : AV × List Mem} (e : leaveR PP cmpCompare_rs ms.length (acodeX PP RR [] cmpCompare_L cmpCompare_b (enterN 20 cmpCompare_h args ms)) = some r) : RR 106 args ms = some r := R_runN (T := TT) (h := cmpCompare_h) (fn := Try.f106) (c := cmpCompare_b) (by kernel_rfl) Try.func106 (by kernel_rfl) (by kernel_rfl) (by kernel_rfl) (by kernel_rfl) rfl e
/-! ### cmp.isNaN[int]: 119 -/
noncomputable def isNaN_b : Code := (Try.f119.body).getD .skip
noncomputable def isNaN_L : Nat → St → Out := loopsOf PP RR isNaN_h.at isNaN_b
abbrev isNaN_rs : List ResultVar := [.tmp 2]
theorem isNaN_r {args : List AV} {ms : List Mem} {r : AV × List Mem} (e : leaveR PP isNaN_rs ms.length (acodeX PP RR [] isNaN_L isNaN_b (enterN 6 isNaN_h args ms)) = some r) : RR 119 args ms = some r := R_runN (T := TT) (h := isNaN_h) (fn := Try.f119) (c := isNaN_b) (by kernel_rfl) Try.func119 (by kernel_rfl) (by kernel_rfl) (by kernel_rfl) (by kernel_rfl) rfl e
/-! ### errata/errataref03.Right: 14 -/
noncomputable def rvRight_b : Code := (Try.f14.body).getD .skip
noncomputable def rvRight_L : Nat → St → Out := loopsOf PP RR rvRight_h.at rvRight_b
abbrev rvRight_rs : List ResultVar := [.tmp 2]
theorem rvRight_r {args : List AV} {ms : List Mem} {r : AV × List Mem} (e : leaveR PP rvRight_rs ms.length (acodeX PP RR [] rvRight_L rvRight_b (enterN 39 rvRight_h args ms)) = some r) : RR 14 args ms = some r := R_runN (T := TT) (h := rvRight_h) (fn := Try.f14) (c := rvRight_b) (by kernel_rfl) Try.func14 (by kernel_rfl) (by kernel_rfl) (by kernel_rfl) (by kernel_rfl) rfl e
/-! ### errata/errataref16.Run: 16 -/
noncomputable def rRun_b : Code := (Try.f16.body).getD .skip
noncomputable def rRun_L : Nat → St → Out := loopsOf PP RR rRun_h.at rRun_b
abbrev rRun_rs : List ResultVar := [.cell 10 40]
theorem rRun_r {args : List AV} {ms : List Mem} {r : AV × List Mem} (e : leaveR PP rRun_rs ms.length (acodeX PP RR [] rRun_L rRun_b (enterN 130 rRun_h args ms)) = some r) : RR 16 args ms = some r := R_runN (T := TT) (h := rRun_h) (fn := Try.f16) (c := rRun_b) (by kernel_rfl) Try.func16 (by kernel_rfl) (by kernel_rfl) (by kernel_rfl) (by kernel_rfl) rfl e
noncomputable def rRun_l11 : Code := (cL (cK (cB (cA (cB (cB (cB (cB rRun_b))))))))
noncomputable def rRun_k11 : Code := (cB (cB (cB (cB (cB rRun_b)))))
noncomputable def rRun_X11 : St → Out := loopX PP RR [] rRun_h.at rRun_b 11 rRun_l11
theorem rRun_q11 (st : St) : rRun_L 11 st = rRun_X11 (St.forget (rRun_h.at 11) st) := loop_X (i := 0) (fun _ => rfl) (by kernel_rfl) (by kernel_rfl) 11 (by kernel_rfl) st
theorem rRun_e11 (st : St) : rRun_X11 st = thenC (acodeX PP RR [] rRun_L rRun_l11 st) (rRun_L 11) := rfl
abbrev rRun_t11 (t0 t2 t3 t4 t6 t10 t14 t15 t16 : AV) (ms : List Mem) : St := ⟨[t0, .junk, t2, t3, t4, .junk, t6, .junk, .junk, .junk, t10, .junk, .junk, .junk, t14, t15, t16, .junk, .junk, .junk, .junk, .junk, .junk, .junk, .junk, .junk, .junk, .junk, .junk, .junk, .junk, .junk, .junk, .junk, .junk, .junk, .junk, .junk, .junk, .junk, .junk, .junk, .junk, .junk, .junk, .junk, .junk, .junk, .junk, .junk, .junk, .junk, .junk, .junk, .junk, .junk, .junk, .junk, .junk, .junk, .junk, .junk, .junk, .junk, .junk, .junk, .junk, .junk, .junk, .junk, .junk, .junk, .junk, .junk, .junk, .junk, .junk, .junk, .junk, .junk, .junk, .junk, .junk, .junk, .junk, .junk, .junk, .junk, .junk, .junk, .junk, .junk, .junk, .junk, .junk, .junk, .junk, .junk, .junk, .junk, .junk, .junk, .junk, .junk, .junk, .junk, .junk, .junk, .junk, .junk, .junk, .junk, .junk, .junk, .junk, .junk, .junk, .junk, .junk, .junk, .junk, .junk, .junk, .junk, .junk, .junk, .junk, .junk, .junk, .junk], ms⟩
/-! ### errata/errataref16.Levels: 17 -/
noncomputable def rLevels_b : Code := (Try.f17.body).getD .skip
noncomputable def rLevels_L : Nat → St → Out := loopsOf PP RR rLevels_h.at rLevels_b
abbrev rLevels_rs : List ResultVar := [.tmp 2]
theorem rLevels_r {args : List AV} {ms : List Mem} {r : AV × List Mem} (e : leaveR PP rLevels_rs ms.length (acodeX PP RR [] rLevels_L rLevels_b (enterN 22 rLevels_h args ms)) = some r) : RR 17 args ms = some r := R_runN (T := TT) (h := rLevels_h) (fn := Try.f17) (c := rLevels_b) (by kernel_rfl) Try.func17 (by kernel_rfl) (by kernel_rfl) (by kernel_rfl) (by kernel_rfl) rfl e
noncomputable def rLevels_l3 : Code := (cL (cK (cB (cA (cB (cB rLevels_b))))))
noncomputable def rLevels_k3 : Code := (cB (cB (cB rLevels_b)))
noncomputable def rLevels_X3 : St → Out := loopX PP RR [] rLevels_h.at rLevels_b 3 rLevels_l3
theorem rLevels_q3 (st : St) : rLevels_L 3 st = rLevels_X3 (St.forget (rLevels_h.at 3) st) := loop_X (i := 0) (fun _ => rfl) (by kernel_rfl) (by kernel_rfl) 3 (by kernel_rfl) st
theorem rLevels_e3 (st : St) : rLevels_X3 st = thenC (acodeX PP RR [] rLevels_L rLevels_l3 st) (rLevels_L 3) := rfl
abbrev rLevels_t3 (t1 t3 t4 : AV) (ms : List Mem) : St := ⟨[.junk, t1, .junk, t3, t4, .junk, .junk, .junk, .junk, .junk, .junk, .junk, .junk, .junk, .junk, .junk, .junk, .junk, .junk, .junk, .junk, .junk], ms⟩
/-! ### errata/errataref16.Replace: 20 -/
noncomputable def rReplace_b : Code := (Try.f20.body).getD .skip
noncomputable def rReplace_L : Nat → St → Out := loopsOf PP RR rReplace_h.at rReplace_b
abbrev rReplace_rs : List ResultVar := [.cell 4 25, .tmp 5]
theorem rReplace_r {args : List AV} {ms : List Mem} {r : AV × List Mem} (e : leaveR PP rReplace_rs ms.length (acodeX PP RR [] rReplace_L rReplace_b (enterN 23 rReplace_h args ms)) = some r) : RR 20 args ms = some r := R_runN (T := TT) (h := rReplace_h) (fn := Try.f20) (c := rReplace_b) (by kernel_rfl) Try.func20 (by kernel_rfl) (by kernel_rfl) (by kernel_rfl) (by kernel_rfl) rfl e
/-! ### errata/errataref16.Inline: 22 -/
noncomputable def rInline_b : Code := (Try.f22.body).getD .skip
noncomputable def rInline_L : Nat → St → Out := loopsOf PP RR rInline_h.at rInline_b
abbrev rInline_rs : List ResultVar := [.cell 4 25, .tmp 5]
theorem rInline_r {args : List AV} {ms : List Mem} {r : AV × List Mem} (e : leaveR PP rInline_rs ms.length (acodeX PP RR [] rInline_L rInline_b (enterN 54 rInline_h args ms)) = some r) : RR 22 args ms = some r := R_runN (T := TT) (h := rInline_h) (fn := Try.f22) (c := rInline_b) (by kernel_rfl) Try.func22 (by kernel_rfl) (by kernel_rfl) (by kernel_rfl) (by kernel_rfl) rfl e
noncomputable def rInline_l4 : Code := (cL (cK (cB (cA (cB (cB (cB rInline_b)))))))
noncomputable def rInline_k4 : Code := (cB (cB (cB (cB rInline_b))))
noncomputable def rInline_X4 : St → Out := loopX PP RR [] rInline_h.at rInline_b 4 rInline_l4
theorem rInline_q4 (st : St) : rInline_L 4 st = rInline_X4 (St.forget (rInline_h.at 4) st) := loop_X (i := 0) (fun _ => rfl) (by kernel_rfl) (by kernel_rfl) 4 (by kernel_rfl) st
theorem rInline_e4 (st : St) : rInline_X4 st = thenC (acodeX PP RR [] rInline_L rInline_l4 st) (rInline_L 4) := rfl
abbrev rInline_t4 (t0 t3 t4 t6 t7 t8 : AV) (ms : List Mem) : St := ⟨[t0, .junk, .junk, t3, t4, .junk, t6, t7, t8, .junk, .junk, .junk, .junk, .junk, .junk, .junk, .junk, .junk, .junk, .junk, .junk, .junk, .junk, .junk, .junk, .junk, .junk, .junk, .junk, .junk, .junk, .junk, .junk, .junk, .junk, .junk, .junk, .junk, .junk, .junk, .junk, .junk, .junk, .junk, .junk, .junk, .junk, .junk, .junk, .junk, .junk, .junk, .junk, .junk], ms⟩
/-! ### errata/errataref16.Same: 23 -/
noncomputable def rSame_b : Code := (Try.f23.body).getD .skip
noncomputable def rSame_L : Nat → St → Out := loopsOf PP RR rSame_h.at rSame_b
abbrev rSame_rs : List ResultVar := [.tmp 4]
theorem rSame_r {args : List AV} {ms : List Mem} {r : AV × List Mem} (e : leaveR PP rSame_rs ms.length (acodeX PP RR [] rSame_L rSame_b (enterN 53 rSame_h args ms)) = some r) : RR 23 args ms = some r := R_runN (T := TT) (h := rSame_h) (fn := Try.f23) (c := rSame_b) (by kernel_rfl) Try.func23 (by kernel_rfl) (by kernel_rfl) (by kernel_rfl) (by kernel_rfl) rfl e
noncomputable def rSame_l4 : Code := (cL (cK (cB (cA (cB (cB rSame_b))))))
noncomputable def rSame_k4 : Code := (cB (cB (cB rSame_b)))
noncomputable def rSame_X4 : St → Out := loopX PP RR [] rSame_h.at rSame_b 4 rSame_l4
theorem rSame_q4 (st : St) : rSame_L 4 st = rSame_X4 (St.forget (rSame_h.at 4) st) := loop_X (i := 0) (fun _ => rfl) (by kernel_rfl) (by kernel_rfl) 4 (by kernel_rfl) st
theorem rSame_e4 (st : St) : rSame_X4 st = thenC (acodeX PP RR [] rSame_L rSame_l4 st) (rSame_L 4) := rfl
abbrev rSame_t4 (t2 t3 t5 : AV) (ms : List Mem) : St := ⟨[.junk, .junk, t2, t3, .junk, t5, .junk, .junk, .junk, .junk, .junk, .junk, .junk, .junk, .junk, .junk, .junk, .junk, .junk, .junk, .junk, .junk, .junk, .junk, .junk, .junk, .junk, .junk, .junk, .junk, .junk, .junk, .junk, .junk, .junk, .junk, .junk, .junk, .junk, .junk, .junk, .junk, .junk, .junk, .junk, .junk, .junk, .junk, .junk, .junk, .junk, .junk, .junk], ms⟩
/-! ### errata/errataref16.Eval: 24 -/
noncomputable def rEval_b : Code := (Try.f24.body).getD .skip
noncomputable def rEval_L : Nat → St → Out := loopsOf PP RR rEval_h.at rEval_b
abbrev rEval_rs : List ResultVar := [.cell 8 34]
theorem rEval_r {args : List AV} {ms : List Mem} {r : AV × List Mem} (e : leaveR PP rEval_rs ms.length (acodeX PP RR [] rEval_L rEval_b (enterN 15 rEval_h args ms)) = some r) : RR 24 args ms = some r := R_runN (T := TT) (h := rEval_h) (fn := Try.f24) (c := rEval_b) (by kernel_rfl) Try.func24 (by kernel_rfl) (by kernel_rfl) (by kernel_rfl) (by kernel_rfl) rfl e
/-! ### errata/errataref16.Steps: 25 -/
noncomputable def rSteps_b : Code := (Try.f25.body).getD .skip
noncomputable def rSteps_L : Nat → St → Out := loopsOf PP RR rSteps_h.at rSteps_b
abbrev rSteps_rs : List ResultVar := [.tmp 4]
theorem rSteps_r {args : List AV} {ms : List Mem} {r : AV × List Mem} (e : leaveR PP rSteps_rs ms.length (acodeX PP RR [] rSteps_L rSteps_b (enterN 26 rSteps_h args ms)) = some r) : RR 25 args ms = some r := R_runN (T := TT) (h := rSteps_h) (fn := Try.f25) (c := rSteps_b) (by kernel_rfl) Try.func25 (by kernel_rfl) (by kernel_rfl) (by kernel_rfl) (by kernel_rfl) rfl e
noncomputable def rSteps_l3 : Code := (cL (cK (cB (cA (cB (cB rSteps_b))))))
noncomputable def rSteps_k3 : Code := (cB (cB (cB rSteps_b)))
noncomputable def rSteps_X3 : St → Out := loopX PP RR [] rSteps_h.at rSteps_b 3 rSteps_l3
theorem rSteps_q3 (st : St) : rSteps_L 3 st = rSteps_X3 (St.forget (rSteps_h.at 3) st) := loop_X (i := 0) (fun _ => rfl) (by kernel_rfl) (by kernel_rfl) 3 (by kernel_rfl) st
theorem rSteps_e3 (st : St) : rSteps_X3 st = thenC (acodeX PP RR [] rSteps_L rSteps_l3 st) (rSteps_L 3) := rfl
abbrev rSteps_t3 (t0 t3 t5 t6 : AV) (ms : List Mem) : St := ⟨[t0, .junk, .junk, t3, .junk, t5, t6, .junk, .junk, .junk, .junk, .junk, .junk, .junk, .junk, .junk, .junk, .junk, .junk, .junk, .junk, .junk, .junk, .junk, .junk, .junk], ms⟩
/-! ### errata/errataref16.Timed: 27 -/
noncomputable def rTimed_b : Code := (Try.f27.body).getD .skip
noncomputable def rTimed_L : Nat → St → Out := loopsOf PP RR rTimed_h.at rTimed_b
abbrev rTimed_rs : List ResultVar := [.tmp 4]
theorem rTimed_r {args : List AV} {ms : List Mem} {r : AV × List Mem} (e : leaveR PP rTimed_rs ms.length (acodeX PP RR [] rTimed_L rTimed_b (enterN 26 rTimed_h args ms)) = some r) : RR 27 args ms = some r := R_runN (T := TT) (h := rTimed_h) (fn := Try.f27) (c := rTimed_b) (by kernel_rfl) Try.func27 (by kernel_rfl) (by kernel_rfl) (by kernel_rfl) (by kernel_rfl) rfl e
noncomputable def rTimed_l3 : Code := (cL (cK (cB (cA (cB (cB rTimed_b))))))
noncomputable def rTimed_k3 : Code := (cB (cB (cB rTimed_b)))
noncomputable def rTimed_X3 : St → Out := loopX PP RR [] rTimed_h.at rTimed_b 3 rTimed_l3
theorem rTimed_q3 (st : St) : rTimed_L 3 st = rTimed_X3 (St.forget (rTimed_h.at 3) st) := loop_X (i := 0) (fun _ => rfl) (by kernel_rfl) (by kernel_rfl) 3 (by kernel_rfl) st
theorem rTimed_e3 (st : St) : rTimed_X3 st = thenC (acodeX PP RR [] rTimed_L rTimed_l3 st) (rTimed_L 3) := rfl
abbrev rTimed_t3 (t0 t3 t5 t6 : AV) (ms : List Mem) : St := ⟨[t0, .junk, .junk, t3, .junk, t5, t6, .junk, .junk, .junk, .junk, .junk, .junk, .junk, .junk, .junk, .junk, .junk, .junk, .junk, .junk, .junk, .junk, .junk, .junk, .junk], ms⟩
/-! ### errata/errataref16.Type: 31 -/
noncomputable def rType_b : Code := (Try.f31.body).getD .skip
noncomputable def rType_L : Nat → St → Out := loopsOf PP RR rType_h.at rType_b
abbrev rType_rs : List ResultVar := [.tmp 8, .tmp 9]
theorem rType_r {args : List AV} {ms : List Mem} {r : AV × List Mem} (e : leaveR PP rType_rs ms.length (acodeX PP RR [] rType_L rType_b (enterN 20 rType_h args ms)) = some r) : RR 31 args ms = some r := R_runN (T := TT) (h := rType_h) (fn := Try.f31) (c := rType_b) (by kernel_rfl) Try.func31 (by kernel_rfl) (by kernel_rfl) (by kernel_rfl) (by kernel_rfl) rfl e
/-! ### errata/errataref16.Right: 33 -/
noncomputable def rRight_b : Code := (Try.f33.body).getD .skip
noncomputable def rRight_L : Nat → St → Out := loopsOf PP RR rRight_h.at rRight_b
abbrev rRight_rs : List ResultVar := [.tmp 2]
theorem rRight_r {args : List AV} {ms : List Mem} {r : AV × List Mem} (e : leaveR PP rRight_rs ms.length (acodeX PP RR [] rRight_L rRight_b (enterN 64 rRight_h args ms)) = some r) : RR 33 args ms = some r := R_runN (T := TT) (h := rRight_h) (fn := Try.f33) (c := rRight_b) (by kernel_rfl) Try.func33 (by kernel_rfl) (by kernel_rfl) (by kernel_rfl) (by kernel_rfl) rfl e
noncomputable def rRight_l2 : Code := (cL (cK (cB (cA (cB rRight_b)))))
noncomputable def rRight_k2 : Code := (cB (cB rRight_b))
noncomputable def rRight_X2 : St → Out := loopX PP RR [] rRight_h.at rRight_b 2 rRight_l2
theorem rRight_q2 (st : St) : rRight_L 2 st = rRight_X2 (St.forget (rRight_h.at 2) st) := loop_X (i := 0) (fun _ => rfl) (by kernel_rfl) (by kernel_rfl) 2 (by kernel_rfl) st
theorem rRight_e2 (st : St) : rRight_X2 st = thenC (acodeX PP RR [] rRight_L rRight_l2 st) (rRight_L 2) := rfl
abbrev rRight_t2 (t0 t3 : AV) (ms : List Mem) : St := ⟨[t0, .junk, .junk, t3, .junk, .junk, .junk, .junk, .junk, .junk, .junk, .junk, .junk, .junk, .junk, .junk, .junk, .junk, .junk, .junk, .junk, .junk, .junk, .junk, .junk, .junk, .junk, .junk, .junk, .junk, .junk, .junk, .junk, .junk, .junk, .junk, .junk, .junk, .junk, .junk, .junk, .junk, .junk, .junk, .junk, .junk, .junk, .junk, .junk, .junk, .junk, .junk, .junk, .junk, .junk, .junk, .junk, .junk, .junk, .junk, .junk, .junk, .junk, .junk], ms⟩
noncomputable def rRight_l6 : Code := (cL (cK (cB (cA (cB (cK (cA (cB (cL (cK (cB (cA (cB rRight_b)))))))))))))
noncomputable def rRight_k6 : Code := (cB (cB (cK (cA (cB (cL (cK (cB (cA (cB rRight_b))))))))))
noncomputable def rRight_X6 : St → Out := loopX PP RR [] rRight_h.at rRight_b 6 rRight_l6
theorem rRight_q6 (st : St) : rRight_L 6 st = rRight_X6 (St.forget (rRight_h.at 6) st) := loop_X (i := 1) (fun _ => rfl) (by kernel_rfl) (by kernel_rfl) 6 (by kernel_rfl) st
theorem rRight_e6 (st : St) : rRight_X6 st = thenC (acodeX PP RR [] rRight_L rRight_l6 st) (rRight_L 6) := rfl
abbrev rRight_t6 (t0 t3 t4 t5 : AV) (ms : List Mem) : St := ⟨[t0, .junk, .junk, t3, t4, t5, .junk, .junk, .junk, .junk, .junk, .junk, .junk, .junk, .junk, .junk, .junk, .junk, .junk, .junk, .junk, .junk, .junk, .junk, .junk, .junk, .junk, .junk, .junk, .junk, .junk, .junk, .junk, .junk, .junk, .junk, .junk, .junk, .junk, .junk, .junk, .junk, .junk, .junk, .junk, .junk, .junk, .junk, .junk, .junk, .junk, .junk, .junk, .junk, .junk, .junk, .junk, .junk, .junk, .junk, .junk, .junk, .junk, .junk], ms⟩
/-! ### errata/errataref16.Reads: 35 -/
noncomputable def rReads_b : Code := (Try.f35.body).getD .skip
noncomputable def rReads_L : Nat → St → Out := loopsOf PP RR rReads_h.at rReads_b
abbrev rReads_rs : List ResultVar := [.tmp 2]
theorem rReads_r {args : List AV} {ms : List Mem} {r : AV × List Mem} (e : leaveR PP rReads_rs ms.length (acodeX PP RR [] rReads_L rReads_b (enterN 39 rReads_h args ms)) = some r) : RR 35 args ms = some r := R_runN (T := TT) (h := rReads_h) (fn := Try.f35) (c := rReads_b) (by kernel_rfl) Try.func35 (by kernel_rfl) (by kernel_rfl) (by kernel_rfl) (by kernel_rfl) rfl e
noncomputable def rReads_l5 : Code := (cL (cK (cB (cA (cB (cB (cB rReads_b)))))))
noncomputable def rReads_k5 : Code := (cB (cB (cB (cB rReads_b))))
noncomputable def rReads_X5 : St → Out := loopX PP RR [] rReads_h.at rReads_b 5 rReads_l5
theorem rReads_q5 (st : St) : rReads_L 5 st = rReads_X5 (St.forget (rReads_h.at 5) st) := loop_X (i := 0) (fun _ => rfl) (by kernel_rfl) (by kernel_rfl) 5 (by kernel_rfl) st
theorem rReads_e5 (st : St) : rReads_X5 st = thenC (acodeX PP RR [] rReads_L rReads_l5 st) (rReads_L 5) := rfl
abbrev rReads_t5 (t1 t3 t4 : AV) (ms : List Mem) : St := ⟨[.junk, t1, .junk, t3, t4, .junk, .junk, .junk, .junk, .junk, .junk, .junk, .junk, .junk, .junk, .junk, .junk, .junk, .junk, .junk, .junk, .junk, .junk, .junk, .junk, .junk, .junk, .junk, .junk, .junk, .junk, .junk, .junk, .junk, .junk, .junk, .junk, .junk, .junk], ms⟩
noncomputable def rReads_l9 : Code := (cL (cK (cB (cB (cK (cA (cB (cL (cK (cB (cA (cB (cB (cB rReads_b))))))))))))))
noncomputable def rReads_k9 : Code := (cB (cB (cL (cK (cB (cA (cB (cB (cB rReads_b)))))))))
noncomputable def rReads_X9 : St → Out := loopX PP RR [] rReads_h.at rReads_b 9 rReads_l9
theorem rReads_q9 (st : St) : rReads_L 9 st = rReads_X9 (St.forget (rReads_h.at 9) st) := loop_X (i := 1) (fun _ => rfl) (by kernel_rfl) (by kernel_rfl) 9 (by kernel_rfl) st
theorem rReads_e9 (st : St) : rReads_X9 st = thenC (acodeX PP RR [] rReads_L rReads_l9 st) (rReads_L 9) := rfl
abbrev rReads_t9 (t1 t3 t4 t5 t6 : AV) (ms : List Mem) : St := ⟨[.junk, t1, .junk, t3, t4, t5, t6, .junk, .junk, .junk, .junk, .junk, .junk, .junk, .junk, .junk, .junk, .junk, .junk, .junk, .junk, .junk, .junk, .junk, .junk, .junk, .junk, .junk, .junk, .junk, .junk, .junk, .junk, .junk, .junk, .junk, .junk, .junk, .junk], ms⟩
/-! ### errata/errataref16.apply: 44 -/
noncomputable def rapply_b : Code := (Try.f44.body).getD .skip
noncomputable def rapply_L : Nat → St → Out := loopsOf PP RR rapply_h.at rapply_b
abbrev rapply_rs : List ResultVar := [.cell 4 34]
theorem rapply_r {args : List AV} {ms : List Mem} {r : AV × List Mem} (e : leaveR PP rapply_rs ms.length (acodeX PP RR [] rapply_L rapply_b (enterN 164 rapply_h args ms)) = some r) : RR 44 args ms = some r := R_runN (T := TT) (h := rapply_h) (fn := Try.f44) (c := rapply_b) (by kernel_rfl) Try.func44 (by kernel_rfl) (by kernel_rfl) (by kernel_rfl) (by kernel_rfl) rfl e
/-! ### errata/errataref16.put: 47 -/
noncomputable def rput_b : Code := (Try.f47.body).getD .skip
noncomputable def rput_L : Nat → St → Out := loopsOf PP RR rput_h.at rput_b
abbrev rput_rs : List ResultVar := [.cell 6 25, .tmp 7]
theorem rput_r {args : List AV} {ms : List Mem} {r : AV × List Mem} (e : leaveR PP rput_rs ms.length (acodeX PP RR [] rput_L rput_b (enterN 68 rput_h args ms)) = some r) : RR 47 args ms = some r := R_runN (T := TT) (h := rput_h) (fn := Try.f47) (c := rput_b) (by kernel_rfl) Try.func47 (by kernel_rfl) (by kernel_rfl) (by kernel_rfl) (by kernel_rfl) rfl e
noncomputable def rput_l7 : Code := (cL (cK (cB (cA (cB (cB (cB rput_b)))))))
noncomputable def rput_k7 : Code := (cB (cB (cB (cB rput_b))))
noncomputable def rput_X7 : St → Out := loopX PP RR [] rput_h.at rput_b 7 rput_l7
theorem rput_q7 (st : St) : rput_L 7 st = rput_X7 (St.forget (rput_h.at 7) st) := loop_X (i := 0) (fun _ => rfl) (by kernel_rfl) (by kernel_rfl) 7 (by kernel_rfl) st
theorem rput_e7 (st : St) : rput_X7 st = thenC (acodeX PP RR [] rput_L rput_l7 st) (rput_L 7) := rfl
abbrev rput_t7 (t1 t2 t3 t6 t8 t9 : AV) (ms : List Mem) : St := ⟨[.junk, t1, t2, t3, .junk, .junk, t6, .junk, t8, t9, .junk, .junk, .junk, .junk, .junk, .junk, .junk, .junk, .junk, .junk, .junk, .junk, .junk, .junk, .junk, .junk, .junk, .junk, .junk, .junk, .junk, .junk, .junk, .junk, .junk, .junk, .junk, .junk, .junk, .junk, .junk, .junk, .junk, .junk, .junk, .junk, .junk, .junk, .junk, .junk, .junk, .junk, .junk, .junk, .junk, .junk, .junk, .junk, .junk, .junk, .junk, .junk, .junk, .junk, .junk, .junk, .junk, .junk], ms⟩
/-! ### errata/errataref16.expand: 49 -/
noncomputable def rexpand_b : Code := (Try.f49.body).getD .skip
noncomputable def rexpand_L : Nat → St → Out := loopsOf PP RR rexpand_h.at rexpand_b
abbrev rexpand_rs : List ResultVar := [.cell 6 25, .tmp 7]
theorem rexpand_r {args : List AV} {ms : List Mem} {r : AV × List Mem} (e : leaveR PP rexpand_rs ms.length (acodeX PP RR [] rexpand_L rexpand_b (enterN 84 rexpand_h args ms)) = some r) : RR 49 args ms = some r := R_runN (T := TT) (h := rexpand_h) (fn := Try.f49) (c := rexpand_b) (by kernel_rfl) Try.func49 (by kernel_rfl) (by kernel_rfl) (by kernel_rfl) (by kernel_rfl) rfl e
noncomputable def rexpand_l3 : Code := (cL (cK (cB (cA (cB (cB rexpand_b))))))
noncomputable def rexpand_k3 : Code := (cB (cB (cB rexpand_b)))
noncomputable def rexpand_X3 : St → Out := loopX PP RR [] rexpand_h.at rexpand_b 3 rexpand_l3
theorem rexpand_q3 (st : St) : rexpand_L 3 st = rexpand_X3 (St.forget (rexpand_h.at 3) st) := loop_X (i := 0) (fun _ => rfl) (by kernel_rfl) (by kernel_rfl) 3 (by kernel_rfl) st
theorem rexpand_e3 (st : St) : rexpand_X3 st = thenC (acodeX PP RR [] rexpand_L rexpand_l3 st) (rexpand_L 3) := rfl
abbrev rexpand_t3 (t1 t2 t3 t6 t8 t9 : AV) (ms : List Mem) : St := ⟨[.junk, t1, t2, t3, .junk, .junk, t6, .junk, t8, t9, .junk, .junk, .junk, .junk, .junk, .junk, .junk, .junk, .junk, .junk, .junk, .junk, .junk, .junk, .junk, .junk, .junk, .junk, .junk, .junk, .junk, .junk, .junk, .junk, .junk, .junk, .junk, .junk, .junk, .junk, .junk, .junk, .junk, .junk, .junk, .junk, .junk, .junk, .junk, .junk, .junk, .junk, .junk, .junk, .junk, .junk, .junk, .junk, .junk, .junk, .junk, .junk, .junk, .junk, .junk, .junk, .junk, .junk, .junk, .junk, .junk, .junk, .junk, .junk, .junk, .junk, .junk, .junk, .junk, .junk, .junk, .junk, .junk, .junk], ms⟩
/-! ### errata/errataref16.count: 50 -/
noncomputable def rcount_b : Code := (Try.f50.body).getD .skip
noncomputable def rcount_L : Nat → St → Out := loopsOf PP RR rcount_h.at rcount_b
abbrev rcount_rs : List ResultVar := [.tmp 4]
theorem rcount_r {args : List AV} {ms : List Mem} {r : AV × List Mem} (e : leaveR PP rcount_rs ms.length (acodeX PP RR [] rcount_L rcount_b (enterN 84 rcount_h args ms)) = some r) : RR 50 args ms = some r := R_runN (T := TT) (h := rcount_h) (fn := Try.f50) (c := rcount_b) (by kernel_rfl) Try.func50 (by kernel_rfl) (by kernel_rfl) (by kernel_rfl) (by kernel_rfl) rfl e
noncomputable def rcount_l4 : Code := (cL (cK (cB (cA (cB (cB (cB rcount_b)))))))
noncomputable def rcount_k4 : Code := (cB (cB (cB (cB rcount_b))))
noncomputable def rcount_X4 : St → Out := loopX PP RR [] rcount_h.at rcount_b 4 rcount_l4
theorem rcount_q4 (st : St) : rcount_L 4 st = rcount_X4 (St.forget (rcount_h.at 4) st) := loop_X (i := 0) (fun _ => rfl) (by kernel_rfl) (by kernel_rfl) 4 (by kernel_rfl) st
theorem rcount_e4 (st : St) : rcount_X4 st = thenC (acodeX PP RR [] rcount_L rcount_l4 st) (rcount_L 4) := rfl
abbrev rcount_t4 (t0 t3 t5 t6 t7 : AV) (ms : List Mem) : St := ⟨[t0, .junk, .junk, t3, .junk, t5, t6, t7, .junk, .junk, .junk, .junk, .junk, .junk, .junk, .junk, .junk, .junk, .junk, .junk, .junk, .junk, .junk, .junk, .junk, .junk, .junk, .junk, .junk, .junk, .junk, .junk, .junk, .junk, .junk, .junk, .junk, .junk, .junk, .junk, .junk, .junk, .junk, .junk, .junk, .junk, .junk, .junk, .junk, .junk, .junk, .junk, .junk, .junk, .junk, .junk, .junk, .junk, .junk, .junk, .junk, .junk, .junk, .junk, .junk, .junk, .junk, .junk, .junk, .junk, .junk, .junk, .junk, .junk, .junk, .junk, .junk, .junk, .junk, .junk, .junk, .junk, .junk, .junk], ms⟩
noncomputable def rcount_l10 : Code := (cL (cK (cB (cA (cB (cB (cB (cB (cB rcount_b)))))))))
noncomputable def rcount_k10 : Code := (cB (cB (cB (cB (cB (cB rcount_b))))))
noncomputable def rcount_X10 : St → Out := loopX PP RR [] rcount_h.at rcount_b 10 rcount_l10
theorem rcount_q10 (st : St) : rcount_L 10 st = rcount_X10 (St.forget (rcount_h.at 10) st) := loop_X (i := 1) (fun _ => rfl) (by kernel_rfl) (by kernel_rfl) 10 (by kernel_rfl) st
theorem rcount_e10 (st : St) : rcount_X10 st = thenC (acodeX PP RR [] rcount_L rcount_l10 st) (rcount_L 10) := rfl
abbrev rcount_t10 (t0 t3 t5 t6 t8 : AV) (ms : List Mem) : St := ⟨[t0, .junk, .junk, t3, .junk, t5, t6, .junk, t8, .junk, .junk, .junk, .junk, .junk, .junk, .junk, .junk, .junk, .junk, .junk, .junk, .junk, .junk, .junk, .junk, .junk, .junk, .junk, .junk, .junk, .junk, .junk, .junk, .junk, .junk, .junk, .junk, .junk, .junk, .junk, .junk, .junk, .junk, .junk, .junk, .junk, .junk, .junk, .junk, .junk, .junk, .junk, .junk, .junk, .junk, .junk, .junk, .junk, .junk, .junk, .junk, .junk, .junk, .junk, .junk, .junk, .junk, .junk, .junk, .junk, .junk, .junk, .junk, .junk, .junk, .junk, .junk, .junk, .junk, .junk, .junk, .junk, .junk, .junk], ms⟩
/-! ### errata/errataref16.timed: 54 -/
noncomputable def rtimed_b : Code := (Try.f54.body).getD .skip
noncomputable def rtimed_L : Nat → St → Out := loopsOf PP RR rtimed_h.at rtimed_b
abbrev rtimed_rs : List ResultVar := [.tmp 4]
theorem rtimed_r {args : List AV} {ms : List Mem} {r : AV × List Mem} (e : leaveR PP rtimed_rs ms.length (acodeX PP RR [] rtimed_L rtimed_b (enterN 43 rtimed_h args ms)) = some r) : RR 54 args ms = some r := R_runN (T := TT) (h := rtimed_h) (fn := Try.f54) (c := rtimed_b) (by kernel_rfl) Try.func54 (by kernel_rfl) (by kernel_rfl) (by kernel_rfl) (by kernel_rfl) rfl e
noncomputable def rtimed_l7 : Code := (cL (cK (cB (cA (cB (cB (cB rtimed_b)))))))
noncomputable def rtimed_k7 : Code := (cB (cB (cB (cB rtimed_b))))
noncomputable def rtimed_X7 : St → Out := loopX PP RR [] rtimed_h.at rtimed_b 7 rtimed_l7
theorem rtimed_q7 (st : St) : rtimed_L 7 st = rtimed_X7 (St.forget (rtimed_h.at 7) st) := loop_X (i := 0) (fun _ => rfl) (by kernel_rfl) (by kernel_rfl) 7 (by kernel_rfl) st
theorem rtimed_e7 (st : St) : rtimed_X7 st = thenC (acodeX PP RR [] rtimed_L rtimed_l7 st) (rtimed_L 7) := rfl
abbrev rtimed_t7 (t0 t3 t5 : AV) (ms : List Mem) : St := ⟨[t0, .junk, .junk, t3, .junk, t5, .junk, .junk, .junk, .junk, .junk, .junk, .junk, .junk, .junk, .junk, .junk, .junk, .junk, .junk, .junk, .junk, .junk, .junk, .junk, .junk, .junk, .junk, .junk, .junk, .junk, .junk, .junk, .junk, .junk, .junk, .junk, .junk, .junk, .junk, .junk, .junk, .junk], ms⟩
/-! ### errata/errataref16.of: 58 -/
noncomputable def rof_b : Code := (Try.f58.body).getD .skip
noncomputable def rof_L : Nat → St → Out := loopsOf PP RR rof_h.at rof_b
abbrev rof_rs : List ResultVar := [.tmp 8, .tmp 9]
theorem rof_r {args : List AV} {ms : List Mem} {r : AV × List Mem} (e : leaveR PP rof_rs ms.length (acodeX PP RR [] rof_L rof_b (enterN 26 rof_h args ms)) = some r) : RR 58 args ms = some r := R_runN (T := TT) (h := rof_h) (fn := Try.f58) (c := rof_b) (by kernel_rfl) Try.func58 (by kernel_rfl) (by kernel_rfl) (by kernel_rfl) (by kernel_rfl) rfl e
/-! ### errata/errataref16.kind: 62 -/
noncomputable def rkind_b : Code := (Try.f62.body).getD .skip
noncomputable def rkind_L : Nat → St → Out := loopsOf PP RR rkind_h.at rkind_b
abbrev rkind_rs : List ResultVar := [.tmp 2]
theorem rkind_r {args : List AV} {ms : List Mem} {r : AV × List Mem} (e : leaveR PP rkind_rs ms.length (acodeX PP RR [] rkind_L rkind_b (enterN 9 rkind_h args ms)) = some r) : RR 62 args ms = some r := R_runN (T := TT) (h := rkind_h) (fn := Try.f62) (c := rkind_b) (by kernel_rfl) Try.func62 (by kernel_rfl) (by kernel_rfl) (by kernel_rfl) (by kernel_rfl) rfl e
/-! ### errata/errataref16.with: 63 -/
noncomputable def rwith_b : Code := (Try.f63.body).getD .skip
noncomputable def rwith_L : Nat → St → Out := loopsOf PP RR rwith_h.at rwith_b
abbrev rwith_rs : List ResultVar := [.tmp 4]
theorem rwith_r {args : List AV} {ms : List Mem} {r : AV × List Mem} (e : leaveR PP rwith_rs ms.length (acodeX PP RR [] rwith_L rwith_b (enterN 49 rwith_h args ms)) = some r) : RR 63 args ms = some r := R_runN (T := TT) (h := rwith_h) (fn := Try.f63) (c := rwith_b) (by kernel_rfl) Try.func63 (by kernel_rfl) (by kernel_rfl) (by kernel_rfl) (by kernel_rfl) rfl e
noncomputable def rwith_l2 : Code := (cL (cK (cA (cB (cB rwith_b)))))
noncomputable def rwith_k2 : Code := (cB (cB (cB rwith_b)))
noncomputable def rwith_X2 : St → Out := loopX PP RR [] rwith_h.at rwith_b 2 rwith_l2
theorem rwith_q2 (st : St) : rwith_L 2 st = rwith_X2 (St.forget (rwith_h.at 2) st) := loop_X (i := 0) (fun _ => rfl) (by kernel_rfl) (by kernel_rfl) 2 (by kernel_rfl) st
theorem rwith_e2 (st : St) : rwith_X2 st = thenC (acodeX PP RR [] rwith_L rwith_l2 st) (rwith_L 2) := rfl
abbrev rwith_t2 (t0 t1 t5 : AV) (ms : List Mem) : St := ⟨[t0, t1, .junk, .junk, .junk, t5, .junk, .junk, .junk, .junk, .junk, .junk, .junk, .junk, .junk, .junk, .junk, .junk, .junk, .junk, .junk, .junk, .junk, .junk, .junk, .junk, .junk, .junk, .junk, .junk, .junk, .junk, .junk, .junk, .junk, .junk, .junk, .junk, .junk, .junk, .junk, .junk, .junk, .junk, .junk, .junk, .junk, .junk, .junk], ms⟩
/-! ### errata/errataref16.truth: 81 -/
noncomputable def rtruth_b : Code := (Try.f81.body).getD .skip
noncomputable def rtruth_L : Nat → St → Out := loopsOf PP RR rtruth_h.at rtruth_b
abbrev rtruth_rs : List ResultVar := [.cell 2 34]
theorem rtruth_r {args : List AV} {ms : List Mem} {r : AV × List Mem} (e : leaveR PP rtruth_rs ms.length (acodeX PP RR [] rtruth_L rtruth_b (enterN 6 rtruth_h args ms)) = some r) : RR 81 args ms = some r := R_runN (T := TT) (h := rtruth_h) (fn := Try.f81) (c := rtruth_b) (by kernel_rfl) Try.func81 (by kernel_rfl) (by kernel_rfl) (by kernel_rfl) (by kernel_rfl) rfl e
/-! ### errata/errataref16.less: 82 -/
noncomputable def rless_b : Code := (Try.f82.body).getD .skip
noncomputable def rless_L : Nat → St → Out := loopsOf PP RR rless_h.at rless_b
abbrev rless_rs : List ResultVar := [.tmp 4]
theorem rless_r {args : List AV} {ms : List Mem} {r : AV × List Mem} (e : leaveR PP rless_rs ms.length (acodeX PP RR [] rless_L rless_b (enterN 18 rless_h args ms)) = some r) : RR 82 args ms = some r := R_runN (T := TT) (h := rless_h) (fn := Try.f82) (c := rless_b) (by kernel_rfl) Try.func82 (by kernel_rfl) (by kernel_rfl) (by kernel_rfl) (by kernel_rfl) rfl e
/-! ### errata/errataref16.Clone: 84 -/
noncomputable def rClone_b : Code := (Try.f84.body).getD .skip
noncomputable def rClone_L : Nat → St → Out := loopsOf PP RR rClone_h.at rClone_b
abbrev rClone_rs : List ResultVar := [.cell 2 25]
theorem rClone_r {args : List AV} {ms : List Mem} {r : AV × List Mem} (e : leaveR PP rClone_rs ms.length (acodeX PP RR [] rClone_L rClone_b (enterN 31 rClone_h args ms)) = some r) : RR 84 args ms = some r := R_runN (T := TT) (h := rClone_h) (fn := Try.f84) (c := rClone_b) (by kernel_rfl) Try.func84 (by kernel_rfl) (by kernel_rfl) (by kernel_rfl) (by kernel_rfl) rfl e
noncomputable def rClone_l3 : Code := (cL (cK (cB (cA (cB (cB rClone_b))))))
noncomputable def rClone_k3 : Code := (cB (cB (cB rClone_b)))
noncomputable def rClone_X3 : St → Out := loopX PP RR [] rClone_h.at rClone_b 3 rClone_l3
theorem rClone_q3 (st : St) : rClone_L 3 st = rClone_X3 (St.forget (rClone_h.at 3) st) := loop_X (i := 0) (fun _ => rfl) (by kernel_rfl) (by kernel_rfl) 3 (by kernel_rfl) st
theorem rClone_e3 (st : St) : rClone_X3 st = thenC (acodeX PP RR [] rClone_L rClone_l3 st) (rClone_L 3) := rfl
abbrev rClone_t3 (t1 t2 t3 t4 : AV) (ms : List Mem) : St := ⟨[.junk, t1, t2, t3, t4, .junk, .junk, .junk, .junk, .junk, .junk, .junk, .junk, .junk, .junk, .junk, .junk, .junk, .junk, .junk, .junk, .junk, .junk, .junk, .junk, .junk, .junk, .junk, .junk, .junk, .junk], ms⟩
/-! ### errata/errataref16.Parts: 86 -/
noncomputable def rParts_b : Code := (Try.f86.body).getD .skip
noncomputable def rParts_L : Nat → St → Out := loopsOf PP RR rParts_h.at rParts_b
abbrev rParts_rs : List ResultVar := [.tmp 2]
theorem rParts_r {args : List AV} {ms : List Mem} {r : AV × List Mem} (e : leaveR PP rParts_rs ms.length (acodeX PP RR [] rParts_L rParts_b (enterN 21 rParts_h args ms)) = some r) : RR 86 args ms = some r := R_runN (T := TT) (h := rParts_h) (fn := Try.f86) (c := rParts_b) (by kernel_rfl) Try.func86 (by kernel_rfl) (by kernel_rfl) (by kernel_rfl) (by kernel_rfl) rfl e
noncomputable def rParts_l3 : Code := (cL (cK (cB (cA (cB (cB rParts_b))))))
noncomputable def rParts_k3 : Code := (cB (cB (cB rParts_b)))
noncomputable def rParts_X3 : St → Out := loopX PP RR [] rParts_h.at rParts_b 3 rParts_l3
theorem rParts_q3 (st : St) : rParts_L 3 st = rParts_X3 (St.forget (rParts_h.at 3) st) := loop_X (i := 0) (fun _ => rfl) (by kernel_rfl) (by kernel_rfl) 3 (by kernel_rfl) st
theorem rParts_e3 (st : St) : rParts_X3 st = thenC (acodeX PP RR [] rParts_L rParts_l3 st) (rParts_L 3) := rfl
abbrev rParts_t3 (t1 t3 t4 : AV) (ms : List Mem) : St := ⟨[.junk, t1, .junk, t3, t4, .junk, .junk, .junk, .junk, .junk, .junk, .junk, .junk, .junk, .junk, .junk, .junk, .junk, .junk, .junk, .junk], ms⟩
/-! ### errata/errataref16.inner: 90 -/
noncomputable def rinner_b : Code := (Try.f90.body).getD .skip
noncomputable def rinner_L : Nat → St → Out := loopsOf PP RR rinner_h.at rinner_b
abbrev rinner_rs : List ResultVar := [.tmp 8, .tmp 9]
theorem rinner_r {args : List AV} {ms : List Mem} {r : AV × List Mem} (e : leaveR PP rinner_rs ms.length (acodeX PP RR [] rinner_L rinner_b (enterN 193 rinner_h args ms)) = some r) : RR 90 args ms = some r := R_runN (T := TT) (h := rinner_h) (fn := Try.f90) (c := rinner_b) (by kernel_rfl) Try.func90 (by kernel_rfl) (by kernel_rfl) (by kernel_rfl) (by kernel_rfl) rfl e
noncomputable def rinner_l3 : Code := (cL (cK (cB (cA (cB (cB rinner_b))))))
noncomputable def rinner_k3 : Code := (cB (cB (cB rinner_b)))
noncomputable def rinner_X3 : St → Out := loopX PP RR [] rinner_h.at rinner_b 3 rinner_l3
theorem rinner_q3 (st : St) : rinner_L 3 st = rinner_X3 (St.forget (rinner_h.at 3) st) := loop_X (i := 0) (fun _ => rfl) (by kernel_rfl) (by kernel_rfl) 3 (by kernel_rfl) st
theorem rinner_e3 (st : St) : rinner_X3 st = thenC (acodeX PP RR [] rinner_L rinner_l3 st) (rinner_L 3) := rfl
abbrev rinner_t3 (t0 t1 t2 t7 t10 t11 : AV) (ms : List Mem) : St := ⟨[t0, t1, t2, .junk, .junk, .junk, .junk, t7, .junk, .junk, t10, t11, .junk, .junk, .junk, .junk, .junk, .junk, .junk, .junk, .junk, .junk, .junk, .junk, .junk, .junk, .junk, .junk, .junk, .junk, .junk, .junk, .junk, .junk, .junk, .junk, .junk, .junk, .junk, .junk, .junk, .junk, .junk, .junk, .junk, .junk, .junk, .junk, .junk, .junk, .junk, .junk, .junk, .junk, .junk, .junk, .junk, .junk, .junk, .junk, .junk, .junk, .junk, .junk, .junk, .junk, .junk, .junk, .junk, .junk, .junk, .junk, .junk, .junk, .junk, .junk, .junk, .junk, .junk, .junk, .junk, .junk, .junk, .junk, .junk, .junk, .junk, .junk, .junk, .junk, .junk, .junk, .junk, .junk, .junk, .junk, .junk, .junk, .junk, .junk, .junk, .junk, .junk, .junk, .junk, .junk, .junk, .junk, .junk, .junk, .junk, .junk, .junk, .junk, .junk, .junk, .junk, .junk, .junk, .junk, .junk, .junk, .junk, .junk, .junk, .junk, .junk, .junk, .junk, .junk, .junk, .junk, .junk, .junk, .junk, .junk, .junk, .junk, .junk, .junk, .junk, .junk, .junk, .junk, .junk, .junk, .junk, .junk, .junk, .junk, .junk, .junk, .junk, .junk, .junk, .junk, .junk, .junk, .junk, .junk, .junk, .junk, .junk, .junk, .junk, .junk, .junk, .junk, .junk, .junk, .junk, .junk, .junk, .junk, .junk, .junk, .junk, .junk, .junk, .junk, .junk, .junk, .junk, .junk, .junk, .junk, .junk, .junk, .junk, .junk, .junk, .junk, .junk], ms⟩
/-! ### errata/errataref16.call: 99 -/
noncomputable def rcall_b : Code := (Try.f99.body).getD .skip
noncomputable def rcall_L : Nat → St → Out := loopsOf PP RR rcall_h.at rcall_b
abbrev rcall_rs : List ResultVar := [.tmp 6, .tmp 7]
theorem rcall_r {args : List AV} {ms : List Mem} {r : AV × List Mem} (e : leaveR PP rcall_rs ms.length (acodeX PP RR [] rcall_L rcall_b (enterN 46 rcall_h args ms)) = some r) : RR 99 args ms = some r := R_runN (T := TT) (h := rcall_h) (fn := Try.f99) (c := rcall_b) (by kernel_rfl) Try.func99 (by kernel_rfl) (by kernel_rfl) (by kernel_rfl) (by kernel_rfl) rfl e
noncomputable def rcall_l7 : Code := (cL (cK (cB (cA (cB (cB (cB (cB rcall_b))))))))
noncomputable def rcall_k7 : Code := (cB (cB (cB (cB (cB rcall_b)))))
noncomputable def rcall_X7 : St → Out := loopX PP RR [] rcall_h.at rcall_b 7 rcall_l7
theorem rcall_q7 (st : St) : rcall_L 7 st = rcall_X7 (St.forget (rcall_h.at 7) st) := loop_X (i := 0) (fun _ => rfl) (by kernel_rfl) (by kernel_rfl) 7 (by kernel_rfl) st
theorem rcall_e7 (st : St) : rcall_X7 st = thenC (acodeX PP RR [] rcall_L rcall_l7 st) (rcall_L 7) := rfl
abbrev rcall_t7 (t2 t8 t9 : AV) (ms : List Mem) : St := ⟨[.junk, .junk, t2, .junk, .junk, .junk, .junk, .junk, t8, t9, .junk, .junk, .junk, .junk, .junk, .junk, .junk, .junk, .junk, .junk, .junk, .junk, .junk, .junk, .junk, .junk, .junk, .junk, .junk, .junk, .junk, .junk, .junk, .junk, .junk, .junk, .junk, .junk, .junk, .junk, .junk, .junk, .junk, .junk, .junk, .junk], ms⟩
/-! ### errata/errataref16.number: 100 -/
noncomputable def rnumber_b : Code := (Try.f100.body).getD .skip
noncomputable def rnumber_L : Nat → St → Out := loopsOf PP RR rnumber_h.at rnumber_b
abbrev rnumber_rs : List ResultVar := [.tmp 2]
theorem rnumber_r {args : List AV} {ms : List Mem} {r : AV × List Mem} (e : leaveR PP rnumber_rs ms.length (acodeX PP RR [] rnumber_L rnumber_b (enterN 25 rnumber_h args ms)) = some r) : RR 100 args ms = some r := R_runN (T := TT) (h := rnumber_h) (fn := Try.f100) (c := rnumber_b) (by kernel_rfl) Try.func100 (by kernel_rfl) (by kernel_rfl) (by kernel_rfl) (by kernel_rfl) rfl e
/-! ### errata/errataref16.at: 101 -/
noncomputable def rat_b : Code := (Try.f101.body).getD .skip
noncomputable def rat_L : Nat → St → Out := loopsOf PP RR rat_h.at rat_b
abbrev rat_rs : List ResultVar := [.tmp 4, .tmp 5]
theorem rat_r {args : List AV} {ms : List Mem} {r : AV × List Mem} (e : leaveR PP rat_rs ms.length (acodeX PP RR [] rat_L rat_b (enterN 23 rat_h args ms)) = some r) : RR 101 args ms = some r := R_runN (T := TT) (h := rat_h) (fn := Try.f101) (c := rat_b) (by kernel_rfl) Try.func101 (by kernel_rfl) (by kernel_rfl) (by kernel_rfl) (by kernel_rfl) rfl e
/-! ### strings.Compare: 107 -/
noncomputable def strCompare_b : Code := (Try.f107.body).getD .skip
noncomputable def strCompare_L : Nat → St → Out := loopsOf PP RR strCompare_h.at strCompare_b
abbrev strCompare_rs : List ResultVar := [.tmp 4]
theorem strCompare_r {args : List AV} {ms : List Mem} {r : AV × List Mem} (e : leaveR PP strCompare_rs ms.length (acodeX PP RR [] strCompare_L strCompare_b (enterN 8 strCompare_h args ms)) = some r) : RR 107 args ms = some r := R_runN (T := TT) (h := strCompare_h) (fn := Try.f107) (c := strCompare_b) (by kernel_rfl) Try.func107 (by kernel_rfl) (by kernel_rfl) (by kernel_rfl) (by kernel_rfl) rfl e
/-! ### errata/expr.Reads: 29 -/
noncomputable def xReads_b : Code := (Try.f29.body).getD .skip
noncomputable def xReads_L : Nat → St → Out := loopsOf PP RR xReads_h.at xReads_b
abbrev xReads_rs : List ResultVar := [.tmp 2]
theorem xReads_r {args : List AV} {ms : List Mem} {r : AV × List Mem} (e : leaveR PP xReads_rs ms.length (acodeX PP RR [] xReads_L xReads_b (enterN 11 xReads_h args ms)) = some r) : RR 29 args ms = some r := R_runN (T := TT) (h := xReads_h) (fn := Try.f29) (c := xReads_b) (by kernel_rfl) Try.func29 (by kernel_rfl) (by kernel_rfl) (by kernel_rfl) (by kernel_rfl) rfl e
/-! ### errata/expr.Reads$1: 55 -/
noncomputable def reads1_b : Code := (Try.f55.body).getD .skip
noncomputable def reads1_L : Nat → St → Out := loopsOf PP RR reads1_h.at reads1_b
abbrev reads1_rs : List ResultVar := []
theorem reads1_r {args : List AV} {ms : List Mem} {r : AV × List Mem} (e : leaveR PP reads1_rs ms.length (acodeX PP RR [] reads1_L reads1_b (enterN 9 reads1_h args ms)) = some r) : RR 55 args ms = some r := R_runN (T := TT) (h := reads1_h) (fn := Try.f55) (c := reads1_b) (by kernel_rfl) Try.func55 (by kernel_rfl) (by kernel_rfl) (by kernel_rfl) (by kernel_rfl) rfl e
/-! ### laws of types -/
theorem al25 (call : ACall) (fl : Bool) (st : St) (s : Tmp) (ty : TypeId) (pos : String) (after : Array Edge) (g : Option (Nat × Bool)) : aop PP call fl ⟨some s, .alloc 25, ty, pos, after, g⟩ st = anew st s [(.pv (.int .i64 0)), (.pv (.int .i64 0)), (.pv (.str ByteArray.empty)), (.full [])] := by kernel_rfl
theorem al3 (call : ACall) (fl : Bool) (st : St) (s : Tmp) (ty : TypeId) (pos : String) (after : Array Edge) (g : Option (Nat × Bool)) : aop PP call fl ⟨some s, .alloc 3, ty, pos, after, g⟩ st = anew st s [(.pv (.int .i64 0))] := by kernel_rfl
theorem al34 (call : ACall) (fl : Bool) (st : St) (s : Tmp) (ty : TypeId) (pos : String) (after : Array Edge) (g : Option (Nat × Bool)) : aop PP call fl ⟨some s, .alloc 34, ty, pos, after, g⟩ st = anew st s [(.pv (.int .i64 0)), (.pv (.int .i64 0)), (.pv (.str ByteArray.empty))] := by kernel_rfl
theorem al4 (call : ACall) (fl : Bool) (st : St) (s : Tmp) (ty : TypeId) (pos : String) (after : Array Edge) (g : Option (Nat × Bool)) : aop PP call fl ⟨some s, .alloc 4, ty, pos, after, g⟩ st = anew st s [(.pv (.bool false))] := by kernel_rfl
theorem al40 (call : ACall) (fl : Bool) (st : St) (s : Tmp) (ty : TypeId) (pos : String) (after : Array Edge) (g : Option (Nat × Bool)) : aop PP call fl ⟨some s, .alloc 40, ty, pos, after, g⟩ st = anew st s [(.pv (.int .i64 0)), (.pv (.int .i64 0)), (.pv (.str ByteArray.empty)), (.pv (.int .i64 0))] := by kernel_rfl
theorem al67 (call : ACall) (fl : Bool) (st : St) (s : Tmp) (ty : TypeId) (pos : String) (after : Array Edge) (g : Option (Nat × Bool)) : aop PP call fl ⟨some s, .alloc 67, ty, pos, after, g⟩ st = anew st s [(.pv (.str ByteArray.empty)), (.full []), (.pv (.int .i64 0)), (.pv (.int .i64 0)), (.pv (.int .i64 0)), (.pv (.str ByteArray.empty)), (.full [])] := by kernel_rfl
theorem al73 (call : ACall) (fl : Bool) (st : St) (s : Tmp) (ty : TypeId) (pos : String) (after : Array Edge) (g : Option (Nat × Bool)) : aop PP call fl ⟨some s, .alloc 73, ty, pos, after, g⟩ st = anew st s [(.pv (.int .i64 0)), (.pv (.int .i64 0)), (.pv (.str ByteArray.empty)), (.full []), (.pv (.bool false))] := by kernel_rfl
theorem al75 (call : ACall) (fl : Bool) (st : St) (s : Tmp) (ty : TypeId) (pos : String) (after : Array Edge) (g : Option (Nat × Bool)) : aop PP call fl ⟨some s, .alloc 75, ty, pos, after, g⟩ st = anew st s [(.full [])] := by kernel_rfl
theorem al81 (call : ACall) (fl : Bool) (st : St) (s : Tmp) (ty : TypeId) (pos : String) (after : Array Edge) (g : Option (Nat × Bool)) : aop PP call fl ⟨some s, .alloc 81, ty, pos, after, g⟩ st = anew st s [.junk] := by kernel_rfl
theorem ap23 (st : St) (dst : Option Tmp) (x y : AV) : aappend PP st dst 23 23 x y = appendC 4 56 st dst x y := aappend_C (el := 25) (by kernel_rfl) (by kernel_rfl) (by kernel_rfl) st dst x y
theorem ap26 (st : St) (dst : Option Tmp) (x y : AV) : aappend PP st dst 26 26 x y = appendC 3 32 st dst x y := aappend_C (el := 34) (by kernel_rfl) (by kernel_rfl) (by kernel_rfl) st dst x y
theorem ap31 (st : St) (dst : Option Tmp) (x y : AV) : aappend PP st dst 31 31 x y = appendC 1 8 st dst x y := aappend_C (el := 3) (by kernel_rfl) (by kernel_rfl) (by kernel_rfl) st dst x y
theorem ap71 (st : St) (dst : Option Tmp) (x y : AV) : aappend PP st dst 71 71 x y = appendC 5 64 st dst x y := aappend_C (el := 73) (by kernel_rfl) (by kernel_rfl) (by kernel_rfl) st dst x y
theorem ap75 (st : St) (dst : Option Tmp) (x y : AV) : aappend PP st dst 75 75 x y = appendC 1 1 st dst x y := aappend_C (el := 4) (by kernel_rfl) (by kernel_rfl) (by kernel_rfl) st dst x y
theorem bd25 (parts : List (Nat × AV)) : abuild PP 25 parts = (afill (fun i => (#[(0, 1), (1, 1), (2, 1), (3, 1)] : Array (Nat × Nat))[i]?) [(.pv (.int .i64 0)), (.pv (.int .i64 0)), (.pv (.str ByteArray.empty)), (.full [])] parts).map .agg := by kernel_rfl
theorem bd34 (parts : List (Nat × AV)) : abuild PP 34 parts = (afill (fun i => (#[(0, 1), (1, 1), (2, 1)] : Array (Nat × Nat))[i]?) [(.pv (.int .i64 0)), (.pv (.int .i64 0)), (.pv (.str ByteArray.empty))] parts).map .agg := by kernel_rfl
theorem bd40 (parts : List (Nat × AV)) : abuild PP 40 parts = (afill (fun i => (#[(0, 3), (3, 1)] : Array (Nat × Nat))[i]?) [(.pv (.int .i64 0)), (.pv (.int .i64 0)), (.pv (.str ByteArray.empty)), (.pv (.int .i64 0))] parts).map .agg := by kernel_rfl
theorem bd61 (parts : List (Nat × AV)) : abuild PP 61 parts = (afill (fun i => (#[(0, 1), (1, 1), (2, 1)] : Array (Nat × Nat))[i]?) [(.full []), (.full []), (.full [])] parts).map .agg := by kernel_rfl
theorem bd64 (parts : List (Nat × AV)) : abuild PP 64 parts = (afill (fun i => (#[(0, 1), (1, 1), (2, 1), (3, 1)] : Array (Nat × Nat))[i]?) [(.full []), (.pv (.int .i64 0)), (.full []), (.full [])] parts).map .agg := by kernel_rfl
theorem bd67 (parts : List (Nat × AV)) : abuild PP 67 parts = (afill (fun i => (#[(0, 1), (1, 1), (2, 1), (3, 4)] : Array (Nat × Nat))[i]?) [(.pv (.str ByteArray.empty)), (.full []), (.pv (.int .i64 0)), (.pv (.int .i64 0)), (.pv (.int .i64 0)), (.pv (.str ByteArray.empty)), (.full [])] parts).map .agg := by kernel_rfl
theorem bd73 (parts : List (Nat × AV)) : abuild PP 73 parts = (afill (fun i => (#[(0, 4), (4, 1)] : Array (Nat × Nat))[i]?) [(.pv (.int .i64 0)), (.pv (.int .i64 0)), (.pv (.str ByteArray.empty)), (.full []), (.pv (.bool false))] parts).map .agg := by kernel_rfl
theorem bd95 (parts : List (Nat × AV)) : abuild PP 95 parts = (afill (fun i => (#[(0, 3), (3, 3)] : Array (Nat × Nat))[i]?) [(.pv (.int .i64 0)), (.pv (.int .i64 0)), (.pv (.str ByteArray.empty)), (.pv (.int .i64 0)), (.pv (.int .i64 0)), (.pv (.str ByteArray.empty))] parts).map .agg := by kernel_rfl
theorem bs22_1 (parts : List (Nat × AV)) : abuildSlice PP 22 1 parts = (afill (fun j => some (j * 7, 7)) [(.pv (.str ByteArray.empty)), (.full []), (.pv (.int .i64 0)), (.pv (.int .i64 0)), (.pv (.int .i64 0)), (.pv (.str ByteArray.empty)), (.full [])] parts).bind fun cs => fullO true 7 1 cs (leaves? cs) := by kernel_rfl
theorem bs23_1 (parts : List (Nat × AV)) : abuildSlice PP 23 1 parts = (afill (fun j => some (j * 4, 4)) [(.pv (.int .i64 0)), (.pv (.int .i64 0)), (.pv (.str ByteArray.empty)), (.full [])] parts).bind fun cs => fullO true 4 1 cs (leaves? cs) := by kernel_rfl
theorem bs23_2 (parts : List (Nat × AV)) : abuildSlice PP 23 2 parts = (afill (fun j => some (j * 4, 4)) [(.pv (.int .i64 0)), (.pv (.int .i64 0)), (.pv (.str ByteArray.empty)), (.full []), (.pv (.int .i64 0)), (.pv (.int .i64 0)), (.pv (.str ByteArray.empty)), (.full [])] parts).bind fun cs => fullO true 4 2 cs (leaves? cs) := by kernel_rfl
theorem bs23_3 (parts : List (Nat × AV)) : abuildSlice PP 23 3 parts = (afill (fun j => some (j * 4, 4)) [(.pv (.int .i64 0)), (.pv (.int .i64 0)), (.pv (.str ByteArray.empty)), (.full []), (.pv (.int .i64 0)), (.pv (.int .i64 0)), (.pv (.str ByteArray.empty)), (.full []), (.pv (.int .i64 0)), (.pv (.int .i64 0)), (.pv (.str ByteArray.empty)), (.full [])] parts).bind fun cs => fullO true 4 3 cs (leaves? cs) := by kernel_rfl
theorem bs26_0 (parts : List (Nat × AV)) : abuildSlice PP 26 0 parts = (afill (fun j => some (j * 3, 3)) [] parts).bind fun cs => fullO true 3 0 cs (leaves? cs) := by kernel_rfl
theorem bs26_1 (parts : List (Nat × AV)) : abuildSlice PP 26 1 parts = (afill (fun j => some (j * 3, 3)) [(.pv (.int .i64 0)), (.pv (.int .i64 0)), (.pv (.str ByteArray.empty))] parts).bind fun cs => fullO true 3 1 cs (leaves? cs) := by kernel_rfl
theorem bs26_2 (parts : List (Nat × AV)) : abuildSlice PP 26 2 parts = (afill (fun j => some (j * 3, 3)) [(.pv (.int .i64 0)), (.pv (.int .i64 0)), (.pv (.str ByteArray.empty)), (.pv (.int .i64 0)), (.pv (.int .i64 0)), (.pv (.str ByteArray.empty))] parts).bind fun cs => fullO true 3 2 cs (leaves? cs) := by kernel_rfl
theorem bs31_0 (parts : List (Nat × AV)) : abuildSlice PP 31 0 parts = (afill (fun j => some (j * 1, 1)) [] parts).bind fun cs => fullO false 1 0 cs (leaves? cs) := by kernel_rfl
theorem bs31_1 (parts : List (Nat × AV)) : abuildSlice PP 31 1 parts = (afill (fun j => some (j * 1, 1)) [(.pv (.int .i64 0))] parts).bind fun cs => fullO false 1 1 cs (leaves? cs) := by kernel_rfl
theorem bs31_2 (parts : List (Nat × AV)) : abuildSlice PP 31 2 parts = (afill (fun j => some (j * 1, 1)) [(.pv (.int .i64 0)), (.pv (.int .i64 0))] parts).bind fun cs => fullO false 1 2 cs (leaves? cs) := by kernel_rfl
theorem bs31_3 (parts : List (Nat × AV)) : abuildSlice PP 31 3 parts = (afill (fun j => some (j * 1, 1)) [(.pv (.int .i64 0)), (.pv (.int .i64 0)), (.pv (.int .i64 0))] parts).bind fun cs => fullO false 1 3 cs (leaves? cs) := by kernel_rfl
theorem bs71_1 (parts : List (Nat × AV)) : abuildSlice PP 71 1 parts = (afill (fun j => some (j * 5, 5)) [(.pv (.int .i64 0)), (.pv (.int .i64 0)), (.pv (.str ByteArray.empty)), (.full []), (.pv (.bool false))] parts).bind fun cs => fullO true 5 1 cs (leaves? cs) := by kernel_rfl
theorem bs75_1 (parts : List (Nat × AV)) : abuildSlice PP 75 1 parts = (afill (fun j => some (j * 1, 1)) [(.pv (.bool false))] parts).bind fun cs => fullO false 1 1 cs (leaves? cs) := by kernel_rfl
theorem cb10 : callable PP 10 = true := by kernel_rfl
theorem cb100 : callable PP 100 = true := by kernel_rfl
theorem cb101 : callable PP 101 = true := by kernel_rfl
theorem cb102 : callable PP 102 = true := by kernel_rfl
theorem cb103 : callable PP 103 = true := by kernel_rfl
theorem cb104 : callable PP 104 = true := by kernel_rfl
theorem cb105 : callable PP 105 = true := by kernel_rfl
theorem cb106 : callable PP 106 = true := by kernel_rfl
theorem cb107 : callable PP 107 = true := by kernel_rfl
theorem cb11 : callable PP 11 = true := by kernel_rfl
theorem cb119 : callable PP 119 = true := by kernel_rfl
theorem cb12 : callable PP 12 = true := by kernel_rfl
theorem cb120 : callable PP 120 = true := by kernel_rfl
theorem cb13 : callable PP 13 = true := by kernel_rfl
theorem cb14 : callable PP 14 = true := by kernel_rfl
theorem cb15 : callable PP 15 = true := by kernel_rfl
theorem cb16 : callable PP 16 = true := by kernel_rfl
theorem cb17 : callable PP 17 = true := by kernel_rfl
theorem cb18 : callable PP 18 = true := by kernel_rfl
theorem cb19 : callable PP 19 = true := by kernel_rfl
theorem cb20 : callable PP 20 = true := by kernel_rfl
theorem cb21 : callable PP 21 = true := by kernel_rfl
theorem cb22 : callable PP 22 = true := by kernel_rfl
theorem cb23 : callable PP 23 = true := by kernel_rfl
theorem cb24 : callable PP 24 = true := by kernel_rfl
theorem cb25 : callable PP 25 = true := by kernel_rfl
theorem cb26 : callable PP 26 = true := by kernel_rfl
theorem cb27 : callable PP 27 = true := by kernel_rfl
theorem cb28 : callable PP 28 = true := by kernel_rfl
theorem cb29 : callable PP 29 = true := by kernel_rfl
theorem cb30 : callable PP 30 = true := by kernel_rfl
theorem cb31 : callable PP 31 = true := by kernel_rfl
theorem cb32 : callable PP 32 = true := by kernel_rfl
theorem cb33 : callable PP 33 = true := by kernel_rfl
theorem cb34 : callable PP 34 = true := by kernel_rfl
theorem cb35 : callable PP 35 = true := by kernel_rfl
theorem cb36 : callable PP 36 = true := by kernel_rfl
theorem cb37 : callable PP 37 = true := by kernel_rfl
theorem cb38 : callable PP 38 = true := by kernel_rfl
theorem cb39 : callable PP 39 = true := by kernel_rfl
theorem cb40 : callable PP 40 = true := by kernel_rfl
theorem cb41 : callable PP 41 = true := by kernel_rfl
theorem cb42 : callable PP 42 = true := by kernel_rfl
theorem cb43 : callable PP 43 = true := by kernel_rfl
theorem cb44 : callable PP 44 = true := by kernel_rfl
theorem cb45 : callable PP 45 = true := by kernel_rfl
theorem cb46 : callable PP 46 = true := by kernel_rfl
theorem cb47 : callable PP 47 = true := by kernel_rfl
theorem cb48 : callable PP 48 = true := by kernel_rfl
theorem cb49 : callable PP 49 = true := by kernel_rfl
theorem cb50 : callable PP 50 = true := by kernel_rfl
theorem cb51 : callable PP 51 = true := by kernel_rfl
theorem cb52 : callable PP 52 = true := by kernel_rfl
theorem cb53 : callable PP 53 = true := by kernel_rfl
theorem cb54 : callable PP 54 = true := by kernel_rfl
theorem cb55 : callable PP 55 = true := by kernel_rfl
theorem cb56 : callable PP 56 = true := by kernel_rfl
theorem cb57 : callable PP 57 = true := by kernel_rfl
theorem cb58 : callable PP 58 = true := by kernel_rfl
theorem cb60 : callable PP 60 = true := by kernel_rfl
theorem cb61 : callable PP 61 = true := by kernel_rfl
theorem cb62 : callable PP 62 = true := by kernel_rfl
theorem cb63 : callable PP 63 = true := by kernel_rfl
theorem cb64 : callable PP 64 = true := by kernel_rfl
theorem cb65 : callable PP 65 = true := by kernel_rfl
theorem cb66 : callable PP 66 = true := by kernel_rfl
theorem cb67 : callable PP 67 = true := by kernel_rfl
theorem cb80 : callable PP 80 = true := by kernel_rfl
theorem cb81 : callable PP 81 = true := by kernel_rfl
theorem cb82 : callable PP 82 = true := by kernel_rfl
theorem cb83 : callable PP 83 = true := by kernel_rfl
theorem cb84 : callable PP 84 = true := by kernel_rfl
theorem cb85 : callable PP 85 = true := by kernel_rfl
theorem cb86 : callable PP 86 = true := by kernel_rfl
theorem cb9 : callable PP 9 = true := by kernel_rfl
theorem cb90 : callable PP 90 = true := by kernel_rfl
theorem cb91 : callable PP 91 = true := by kernel_rfl
theorem cb92 : callable PP 92 = true := by kernel_rfl
theorem cb93 : callable PP 93 = true := by kernel_rfl
theorem cb94 : callable PP 94 = true := by kernel_rfl
theorem cb95 : callable PP 95 = true := by kernel_rfl
theorem cb99 : callable PP 99 = true := by kernel_rfl
theorem eq34eql (a0 b0 : Int) (a1 b1 : Int) (a2 b2 : ByteArray) : abin PP .eql 34 (.agg [.pv (.int .i64 a0), .pv (.int .i64 a1), .pv (.str a2)]) (.agg [.pv (.int .i64 b0), .pv (.int .i64 b1), .pv (.str b2)]) = some (.pv (.bool ((a0 == b0) && ((a1 == b1) && ((a2.toList == b2.toList) && true))))) := by kernel_rfl
theorem eq34neq (a0 b0 : Int) (a1 b1 : Int) (a2 b2 : ByteArray) : abin PP .neq 34 (.agg [.pv (.int .i64 a0), .pv (.int .i64 a1), .pv (.str a2)]) (.agg [.pv (.int .i64 b0), .pv (.int .i64 b1), .pv (.str b2)]) = some (.pv (.bool (!((a0 == b0) && ((a1 == b1) && ((a2.toList == b2.toList) && true)))))) := by kernel_rfl
theorem eqb4eql (a b : Bool) : abin PP .eql 4 (.pv (.bool a)) (.pv (.bool b)) = some (.pv (.bool ((a == b)))) := by kernel_rfl
theorem eqb4neq (a b : Bool) : abin PP .neq 4 (.pv (.bool a)) (.pv (.bool b)) = some (.pv (.bool (!(a == b)))) := by kernel_rfl
theorem fa25_0 (loc : Option Nat) (s off : Nat) : afield PP 25 (.ptr loc s off) 0 = some (.ptr loc s (off + 0)) := by kernel_rfl
theorem fa25_1 (loc : Option Nat) (s off : Nat) : afield PP 25 (.ptr loc s off) 1 = some (.ptr loc s (off + 1)) := by kernel_rfl
theorem fa25_2 (loc : Option Nat) (s off : Nat) : afield PP 25 (.ptr loc s off) 2 = some (.ptr loc s (off + 2)) := by kernel_rfl
theorem fa25_3 (loc : Option Nat) (s off : Nat) : afield PP 25 (.ptr loc s off) 3 = some (.ptr loc s (off + 3)) := by kernel_rfl
theorem fa34_0 (loc : Option Nat) (s off : Nat) : afield PP 34 (.ptr loc s off) 0 = some (.ptr loc s (off + 0)) := by kernel_rfl
theorem fa34_1 (loc : Option Nat) (s off : Nat) : afield PP 34 (.ptr loc s off) 1 = some (.ptr loc s (off + 1)) := by kernel_rfl
theorem fa34_2 (loc : Option Nat) (s off : Nat) : afield PP 34 (.ptr loc s off) 2 = some (.ptr loc s (off + 2)) := by kernel_rfl
theorem fa40_0 (loc : Option Nat) (s off : Nat) : afield PP 40 (.ptr loc s off) 0 = some (.ptr loc s (off + 0)) := by kernel_rfl
theorem fa40_1 (loc : Option Nat) (s off : Nat) : afield PP 40 (.ptr loc s off) 1 = some (.ptr loc s (off + 3)) := by kernel_rfl
theorem fa61_0 (loc : Option Nat) (s off : Nat) : afield PP 61 (.ptr loc s off) 0 = some (.ptr loc s (off + 0)) := by kernel_rfl
theorem fa61_1 (loc : Option Nat) (s off : Nat) : afield PP 61 (.ptr loc s off) 1 = some (.ptr loc s (off + 1)) := by kernel_rfl
theorem fa61_2 (loc : Option Nat) (s off : Nat) : afield PP 61 (.ptr loc s off) 2 = some (.ptr loc s (off + 2)) := by kernel_rfl
theorem fa64_0 (loc : Option Nat) (s off : Nat) : afield PP 64 (.ptr loc s off) 0 = some (.ptr loc s (off + 0)) := by kernel_rfl
theorem fa64_1 (loc : Option Nat) (s off : Nat) : afield PP 64 (.ptr loc s off) 1 = some (.ptr loc s (off + 1)) := by kernel_rfl
theorem fa64_2 (loc : Option Nat) (s off : Nat) : afield PP 64 (.ptr loc s off) 2 = some (.ptr loc s (off + 2)) := by kernel_rfl
theorem fa64_3 (loc : Option Nat) (s off : Nat) : afield PP 64 (.ptr loc s off) 3 = some (.ptr loc s (off + 3)) := by kernel_rfl
theorem fa67_1 (loc : Option Nat) (s off : Nat) : afield PP 67 (.ptr loc s off) 1 = some (.ptr loc s (off + 1)) := by kernel_rfl
theorem fa67_2 (loc : Option Nat) (s off : Nat) : afield PP 67 (.ptr loc s off) 2 = some (.ptr loc s (off + 2)) := by kernel_rfl
theorem fa67_3 (loc : Option Nat) (s off : Nat) : afield PP 67 (.ptr loc s off) 3 = some (.ptr loc s (off + 3)) := by kernel_rfl
theorem fa73_0 (loc : Option Nat) (s off : Nat) : afield PP 73 (.ptr loc s off) 0 = some (.ptr loc s (off + 0)) := by kernel_rfl
theorem fa73_1 (loc : Option Nat) (s off : Nat) : afield PP 73 (.ptr loc s off) 1 = some (.ptr loc s (off + 4)) := by kernel_rfl
theorem fa95_0 (loc : Option Nat) (s off : Nat) : afield PP 95 (.ptr loc s off) 0 = some (.ptr loc s (off + 0)) := by kernel_rfl
theorem fa95_1 (loc : Option Nat) (s off : Nat) : afield PP 95 (.ptr loc s off) 1 = some (.ptr loc s (off + 3)) := by kernel_rfl
theorem fe25_0 (cs : List PV) : afield PP 25 (.eptr cs) 0 = some (.eptr (cs.drop 0)) := by kernel_rfl
theorem fe25_1 (cs : List PV) : afield PP 25 (.eptr cs) 1 = some (.eptr (cs.drop 1)) := by kernel_rfl
theorem fe25_2 (cs : List PV) : afield PP 25 (.eptr cs) 2 = some (.eptr (cs.drop 2)) := by kernel_rfl
theorem fe25_3 (cs : List PV) : afield PP 25 (.eptr cs) 3 = some (.eptr (cs.drop 3)) := by kernel_rfl
theorem fe34_0 (cs : List PV) : afield PP 34 (.eptr cs) 0 = some (.eptr (cs.drop 0)) := by kernel_rfl
theorem fe34_1 (cs : List PV) : afield PP 34 (.eptr cs) 1 = some (.eptr (cs.drop 1)) := by kernel_rfl
theorem fe34_2 (cs : List PV) : afield PP 34 (.eptr cs) 2 = some (.eptr (cs.drop 2)) := by kernel_rfl
theorem fe40_0 (cs : List PV) : afield PP 40 (.eptr cs) 0 = some (.eptr (cs.drop 0)) := by kernel_rfl
theorem fe40_1 (cs : List PV) : afield PP 40 (.eptr cs) 1 = some (.eptr (cs.drop 3)) := by kernel_rfl
theorem fe61_0 (cs : List PV) : afield PP 61 (.eptr cs) 0 = some (.eptr (cs.drop 0)) := by kernel_rfl
theorem fe61_1 (cs : List PV) : afield PP 61 (.eptr cs) 1 = some (.eptr (cs.drop 1)) := by kernel_rfl
theorem fe61_2 (cs : List PV) : afield PP 61 (.eptr cs) 2 = some (.eptr (cs.drop 2)) := by kernel_rfl
theorem fe64_0 (cs : List PV) : afield PP 64 (.eptr cs) 0 = some (.eptr (cs.drop 0)) := by kernel_rfl
theorem fe64_1 (cs : List PV) : afield PP 64 (.eptr cs) 1 = some (.eptr (cs.drop 1)) := by kernel_rfl
theorem fe64_2 (cs : List PV) : afield PP 64 (.eptr cs) 2 = some (.eptr (cs.drop 2)) := by kernel_rfl
theorem fe64_3 (cs : List PV) : afield PP 64 (.eptr cs) 3 = some (.eptr (cs.drop 3)) := by kernel_rfl
theorem fe67_1 (cs : List PV) : afield PP 67 (.eptr cs) 1 = some (.eptr (cs.drop 1)) := by kernel_rfl
theorem fe67_2 (cs : List PV) : afield PP 67 (.eptr cs) 2 = some (.eptr (cs.drop 2)) := by kernel_rfl
theorem fe67_3 (cs : List PV) : afield PP 67 (.eptr cs) 3 = some (.eptr (cs.drop 3)) := by kernel_rfl
theorem fe73_0 (cs : List PV) : afield PP 73 (.eptr cs) 0 = some (.eptr (cs.drop 0)) := by kernel_rfl
theorem fe73_1 (cs : List PV) : afield PP 73 (.eptr cs) 1 = some (.eptr (cs.drop 4)) := by kernel_rfl
theorem fe95_0 (cs : List PV) : afield PP 95 (.eptr cs) 0 = some (.eptr (cs.drop 0)) := by kernel_rfl
theorem fe95_1 (cs : List PV) : afield PP 95 (.eptr cs) 1 = some (.eptr (cs.drop 3)) := by kernel_rfl
theorem fr25_0 (loc : Option Nat) (s ver off : Nat) : afield PP 25 (.rptr loc s ver off) 0 = some (.rptr loc s ver (off + 0)) := by kernel_rfl
theorem fr25_1 (loc : Option Nat) (s ver off : Nat) : afield PP 25 (.rptr loc s ver off) 1 = some (.rptr loc s ver (off + 1)) := by kernel_rfl
theorem fr25_2 (loc : Option Nat) (s ver off : Nat) : afield PP 25 (.rptr loc s ver off) 2 = some (.rptr loc s ver (off + 2)) := by kernel_rfl
theorem fr25_3 (loc : Option Nat) (s ver off : Nat) : afield PP 25 (.rptr loc s ver off) 3 = some (.rptr loc s ver (off + 3)) := by kernel_rfl
theorem fr34_0 (loc : Option Nat) (s ver off : Nat) : afield PP 34 (.rptr loc s ver off) 0 = some (.rptr loc s ver (off + 0)) := by kernel_rfl
theorem fr34_1 (loc : Option Nat) (s ver off : Nat) : afield PP 34 (.rptr loc s ver off) 1 = some (.rptr loc s ver (off + 1)) := by kernel_rfl
theorem fr34_2 (loc : Option Nat) (s ver off : Nat) : afield PP 34 (.rptr loc s ver off) 2 = some (.rptr loc s ver (off + 2)) := by kernel_rfl
theorem fr40_0 (loc : Option Nat) (s ver off : Nat) : afield PP 40 (.rptr loc s ver off) 0 = some (.rptr loc s ver (off + 0)) := by kernel_rfl
theorem fr40_1 (loc : Option Nat) (s ver off : Nat) : afield PP 40 (.rptr loc s ver off) 1 = some (.rptr loc s ver (off + 3)) := by kernel_rfl
theorem fr61_0 (loc : Option Nat) (s ver off : Nat) : afield PP 61 (.rptr loc s ver off) 0 = some (.rptr loc s ver (off + 0)) := by kernel_rfl
theorem fr61_1 (loc : Option Nat) (s ver off : Nat) : afield PP 61 (.rptr loc s ver off) 1 = some (.rptr loc s ver (off + 1)) := by kernel_rfl
theorem fr61_2 (loc : Option Nat) (s ver off : Nat) : afield PP 61 (.rptr loc s ver off) 2 = some (.rptr loc s ver (off + 2)) := by kernel_rfl
theorem fr64_0 (loc : Option Nat) (s ver off : Nat) : afield PP 64 (.rptr loc s ver off) 0 = some (.rptr loc s ver (off + 0)) := by kernel_rfl
theorem fr64_1 (loc : Option Nat) (s ver off : Nat) : afield PP 64 (.rptr loc s ver off) 1 = some (.rptr loc s ver (off + 1)) := by kernel_rfl
theorem fr64_2 (loc : Option Nat) (s ver off : Nat) : afield PP 64 (.rptr loc s ver off) 2 = some (.rptr loc s ver (off + 2)) := by kernel_rfl
theorem fr64_3 (loc : Option Nat) (s ver off : Nat) : afield PP 64 (.rptr loc s ver off) 3 = some (.rptr loc s ver (off + 3)) := by kernel_rfl
theorem fr67_1 (loc : Option Nat) (s ver off : Nat) : afield PP 67 (.rptr loc s ver off) 1 = some (.rptr loc s ver (off + 1)) := by kernel_rfl
theorem fr67_2 (loc : Option Nat) (s ver off : Nat) : afield PP 67 (.rptr loc s ver off) 2 = some (.rptr loc s ver (off + 2)) := by kernel_rfl
theorem fr67_3 (loc : Option Nat) (s ver off : Nat) : afield PP 67 (.rptr loc s ver off) 3 = some (.rptr loc s ver (off + 3)) := by kernel_rfl
theorem fr73_0 (loc : Option Nat) (s ver off : Nat) : afield PP 73 (.rptr loc s ver off) 0 = some (.rptr loc s ver (off + 0)) := by kernel_rfl
theorem fr73_1 (loc : Option Nat) (s ver off : Nat) : afield PP 73 (.rptr loc s ver off) 1 = some (.rptr loc s ver (off + 4)) := by kernel_rfl
theorem fr95_0 (loc : Option Nat) (s ver off : Nat) : afield PP 95 (.rptr loc s ver off) 0 = some (.rptr loc s ver (off + 0)) := by kernel_rfl
theorem fr95_1 (loc : Option Nat) (s ver off : Nat) : afield PP 95 (.rptr loc s ver off) 1 = some (.rptr loc s ver (off + 3)) := by kernel_rfl
theorem fv34_1 (cs : List AV) : afieldv PP 34 (.agg cs) 1 = cs[1]? := by kernel_rfl
theorem fv40_0 (cs : List AV) : afieldv PP 40 (.agg cs) 0 = some (.agg ((cs.drop 0).take 3)) := by kernel_rfl
theorem fv40_1 (cs : List AV) : afieldv PP 40 (.agg cs) 1 = cs[3]? := by kernel_rfl
theorem ix22 (x : AV) (k : IntKind) (n : Int) : aindex PP 22 x (.pv (.int k n)) = indexC 7 x n := aindex_C (el := 67) (by kernel_rfl) (by kernel_rfl) x k n
theorem ix23 (x : AV) (k : IntKind) (n : Int) : aindex PP 23 x (.pv (.int k n)) = indexC 4 x n := aindex_C (el := 25) (by kernel_rfl) (by kernel_rfl) x k n
theorem ix26 (x : AV) (k : IntKind) (n : Int) : aindex PP 26 x (.pv (.int k n)) = indexC 3 x n := aindex_C (el := 34) (by kernel_rfl) (by kernel_rfl) x k n
theorem ix31 (x : AV) (k : IntKind) (n : Int) : aindex PP 31 x (.pv (.int k n)) = indexC 1 x n := aindex_C (el := 3) (by kernel_rfl) (by kernel_rfl) x k n
theorem ix71 (x : AV) (k : IntKind) (n : Int) : aindex PP 71 x (.pv (.int k n)) = indexC 5 x n := aindex_C (el := 73) (by kernel_rfl) (by kernel_rfl) x k n
theorem ix75 (x : AV) (k : IntKind) (n : Int) : aindex PP 75 x (.pv (.int k n)) = indexC 1 x n := aindex_C (el := 4) (by kernel_rfl) (by kernel_rfl) x k n
theorem ld22 (st : St) (s off : Nat) : aload PP st 22 (.ptr none s off) = (okC (varAt st.mems st.d s)).bind fun cs => cs[off]? := by kernel_rfl
theorem ld23 (st : St) (s off : Nat) : aload PP st 23 (.ptr none s off) = (okC (varAt st.mems st.d s)).bind fun cs => cs[off]? := by kernel_rfl
theorem ld25 (st : St) (s off : Nat) : aload PP st 25 (.ptr none s off) = (okC (varAt st.mems st.d s)).bind fun cs => if off + 4 ≤ cs.length then some (.agg ((cs.drop off).take 4)) else none := by kernel_rfl
theorem ld26 (st : St) (s off : Nat) : aload PP st 26 (.ptr none s off) = (okC (varAt st.mems st.d s)).bind fun cs => cs[off]? := by kernel_rfl
theorem ld3 (st : St) (s off : Nat) : aload PP st 3 (.ptr none s off) = (okC (varAt st.mems st.d s)).bind fun cs => cs[off]? := by kernel_rfl
theorem ld31 (st : St) (s off : Nat) : aload PP st 31 (.ptr none s off) = (okC (varAt st.mems st.d s)).bind fun cs => cs[off]? := by kernel_rfl
theorem ld34 (st : St) (s off : Nat) : aload PP st 34 (.ptr none s off) = (okC (varAt st.mems st.d s)).bind fun cs => if off + 3 ≤ cs.length then some (.agg ((cs.drop off).take 3)) else none := by kernel_rfl
theorem ld4 (st : St) (s off : Nat) : aload PP st 4 (.ptr none s off) = (okC (varAt st.mems st.d s)).bind fun cs => cs[off]? := by kernel_rfl
theorem ld61 (st : St) (s off : Nat) : aload PP st 61 (.ptr none s off) = (okC (varAt st.mems st.d s)).bind fun cs => if off + 3 ≤ cs.length then some (.agg ((cs.drop off).take 3)) else none := by kernel_rfl
theorem ld64 (st : St) (s off : Nat) : aload PP st 64 (.ptr none s off) = (okC (varAt st.mems st.d s)).bind fun cs => if off + 4 ≤ cs.length then some (.agg ((cs.drop off).take 4)) else none := by kernel_rfl
theorem ld67 (st : St) (s off : Nat) : aload PP st 67 (.ptr none s off) = (okC (varAt st.mems st.d s)).bind fun cs => if off + 7 ≤ cs.length then some (.agg ((cs.drop off).take 7)) else none := by kernel_rfl
theorem ld73 (st : St) (s off : Nat) : aload PP st 73 (.ptr none s off) = (okC (varAt st.mems st.d s)).bind fun cs => if off + 5 ≤ cs.length then some (.agg ((cs.drop off).take 5)) else none := by kernel_rfl
theorem ld75 (st : St) (s off : Nat) : aload PP st 75 (.ptr none s off) = (okC (varAt st.mems st.d s)).bind fun cs => cs[off]? := by kernel_rfl
theorem ld81 (st : St) (s off : Nat) : aload PP st 81 (.ptr none s off) = (okC (varAt st.mems st.d s)).bind fun cs => cs[off]? := by kernel_rfl
theorem ld9 (st : St) (s off : Nat) : aload PP st 9 (.ptr none s off) = (okC (varAt st.mems st.d s)).bind fun cs => cs[off]? := by kernel_rfl
theorem lde22 (st : St) (cs : List PV) : aload PP st 22 (.eptr cs) = (cs[0]?).map .pv := by kernel_rfl
theorem lde23 (st : St) (cs : List PV) : aload PP st 23 (.eptr cs) = (cs[0]?).map .pv := by kernel_rfl
theorem lde25 (st : St) (cs : List PV) : aload PP st 25 (.eptr cs) = if 4 ≤ cs.length then some (.agg ((cs.take 4).map .pv)) else none := by kernel_rfl
theorem lde26 (st : St) (cs : List PV) : aload PP st 26 (.eptr cs) = (cs[0]?).map .pv := by kernel_rfl
theorem lde3 (st : St) (cs : List PV) : aload PP st 3 (.eptr cs) = (cs[0]?).map .pv := by kernel_rfl
theorem lde31 (st : St) (cs : List PV) : aload PP st 31 (.eptr cs) = (cs[0]?).map .pv := by kernel_rfl
theorem lde34 (st : St) (cs : List PV) : aload PP st 34 (.eptr cs) = if 3 ≤ cs.length then some (.agg ((cs.take 3).map .pv)) else none := by kernel_rfl
theorem lde4 (st : St) (cs : List PV) : aload PP st 4 (.eptr cs) = (cs[0]?).map .pv := by kernel_rfl
theorem lde61 (st : St) (cs : List PV) : aload PP st 61 (.eptr cs) = if 3 ≤ cs.length then some (.agg ((cs.take 3).map .pv)) else none := by kernel_rfl
theorem lde64 (st : St) (cs : List PV) : aload PP st 64 (.eptr cs) = if 4 ≤ cs.length then some (.agg ((cs.take 4).map .pv)) else none := by kernel_rfl
theorem lde67 (st : St) (cs : List PV) : aload PP st 67 (.eptr cs) = if 7 ≤ cs.length then some (.agg ((cs.take 7).map .pv)) else none := by kernel_rfl
theorem lde73 (st : St) (cs : List PV) : aload PP st 73 (.eptr cs) = if 5 ≤ cs.length then some (.agg ((cs.take 5).map .pv)) else none := by kernel_rfl
theorem lde75 (st : St) (cs : List PV) : aload PP st 75 (.eptr cs) = (cs[0]?).map .pv := by kernel_rfl
theorem lde81 (st : St) (cs : List PV) : aload PP st 81 (.eptr cs) = (cs[0]?).map .pv := by kernel_rfl
theorem lde9 (st : St) (cs : List PV) : aload PP st 9 (.eptr cs) = (cs[0]?).map .pv := by kernel_rfl
theorem ldo22 (st : St) (d s off : Nat) : aload PP st 22 (.ptr (some d) s off) = (okC (varAt st.mems d s)).bind fun cs => (cs[off]?).map (AV.reloc d) := by kernel_rfl
theorem ldo23 (st : St) (d s off : Nat) : aload PP st 23 (.ptr (some d) s off) = (okC (varAt st.mems d s)).bind fun cs => (cs[off]?).map (AV.reloc d) := by kernel_rfl
theorem ldo25 (st : St) (d s off : Nat) : aload PP st 25 (.ptr (some d) s off) = (okC (varAt st.mems d s)).bind fun cs => if off + 4 ≤ cs.length then some (.agg (relocs d ((cs.drop off).take 4))) else none := by kernel_rfl
theorem ldo26 (st : St) (d s off : Nat) : aload PP st 26 (.ptr (some d) s off) = (okC (varAt st.mems d s)).bind fun cs => (cs[off]?).map (AV.reloc d) := by kernel_rfl
theorem ldo3 (st : St) (d s off : Nat) : aload PP st 3 (.ptr (some d) s off) = (okC (varAt st.mems d s)).bind fun cs => (cs[off]?).map (AV.reloc d) := by kernel_rfl
theorem ldo31 (st : St) (d s off : Nat) : aload PP st 31 (.ptr (some d) s off) = (okC (varAt st.mems d s)).bind fun cs => (cs[off]?).map (AV.reloc d) := by kernel_rfl
theorem ldo34 (st : St) (d s off : Nat) : aload PP st 34 (.ptr (some d) s off) = (okC (varAt st.mems d s)).bind fun cs => if off + 3 ≤ cs.length then some (.agg (relocs d ((cs.drop off).take 3))) else none := by kernel_rfl
theorem ldo4 (st : St) (d s off : Nat) : aload PP st 4 (.ptr (some d) s off) = (okC (varAt st.mems d s)).bind fun cs => (cs[off]?).map (AV.reloc d) := by kernel_rfl
theorem ldo61 (st : St) (d s off : Nat) : aload PP st 61 (.ptr (some d) s off) = (okC (varAt st.mems d s)).bind fun cs => if off + 3 ≤ cs.length then some (.agg (relocs d ((cs.drop off).take 3))) else none := by kernel_rfl
theorem ldo64 (st : St) (d s off : Nat) : aload PP st 64 (.ptr (some d) s off) = (okC (varAt st.mems d s)).bind fun cs => if off + 4 ≤ cs.length then some (.agg (relocs d ((cs.drop off).take 4))) else none := by kernel_rfl
theorem ldo67 (st : St) (d s off : Nat) : aload PP st 67 (.ptr (some d) s off) = (okC (varAt st.mems d s)).bind fun cs => if off + 7 ≤ cs.length then some (.agg (relocs d ((cs.drop off).take 7))) else none := by kernel_rfl
theorem ldo73 (st : St) (d s off : Nat) : aload PP st 73 (.ptr (some d) s off) = (okC (varAt st.mems d s)).bind fun cs => if off + 5 ≤ cs.length then some (.agg (relocs d ((cs.drop off).take 5))) else none := by kernel_rfl
theorem ldo75 (st : St) (d s off : Nat) : aload PP st 75 (.ptr (some d) s off) = (okC (varAt st.mems d s)).bind fun cs => (cs[off]?).map (AV.reloc d) := by kernel_rfl
theorem ldo81 (st : St) (d s off : Nat) : aload PP st 81 (.ptr (some d) s off) = (okC (varAt st.mems d s)).bind fun cs => (cs[off]?).map (AV.reloc d) := by kernel_rfl
theorem ldo9 (st : St) (d s off : Nat) : aload PP st 9 (.ptr (some d) s off) = (okC (varAt st.mems d s)).bind fun cs => (cs[off]?).map (AV.reloc d) := by kernel_rfl
theorem ldr22 (st : St) (loc : Option Nat) (s ver off : Nat) : aload PP st 22 (.rptr loc s ver off) = (rwAt st.mems (loc.getD st.d) s).bind fun q => if q.1 = ver then selC false 1 off (q.2.2.map AV.pv) else none := by kernel_rfl
theorem ldr23 (st : St) (loc : Option Nat) (s ver off : Nat) : aload PP st 23 (.rptr loc s ver off) = (rwAt st.mems (loc.getD st.d) s).bind fun q => if q.1 = ver then selC false 1 off (q.2.2.map AV.pv) else none := by kernel_rfl
theorem ldr25 (st : St) (loc : Option Nat) (s ver off : Nat) : aload PP st 25 (.rptr loc s ver off) = (rwAt st.mems (loc.getD st.d) s).bind fun q => if q.1 = ver then selC true 4 off (q.2.2.map AV.pv) else none := by kernel_rfl
theorem ldr26 (st : St) (loc : Option Nat) (s ver off : Nat) : aload PP st 26 (.rptr loc s ver off) = (rwAt st.mems (loc.getD st.d) s).bind fun q => if q.1 = ver then selC false 1 off (q.2.2.map AV.pv) else none := by kernel_rfl
theorem ldr3 (st : St) (loc : Option Nat) (s ver off : Nat) : aload PP st 3 (.rptr loc s ver off) = (rwAt st.mems (loc.getD st.d) s).bind fun q => if q.1 = ver then selC false 1 off (q.2.2.map AV.pv) else none := by kernel_rfl
theorem ldr31 (st : St) (loc : Option Nat) (s ver off : Nat) : aload PP st 31 (.rptr loc s ver off) = (rwAt st.mems (loc.getD st.d) s).bind fun q => if q.1 = ver then selC false 1 off (q.2.2.map AV.pv) else none := by kernel_rfl
theorem ldr34 (st : St) (loc : Option Nat) (s ver off : Nat) : aload PP st 34 (.rptr loc s ver off) = (rwAt st.mems (loc.getD st.d) s).bind fun q => if q.1 = ver then selC true 3 off (q.2.2.map AV.pv) else none := by kernel_rfl
theorem ldr4 (st : St) (loc : Option Nat) (s ver off : Nat) : aload PP st 4 (.rptr loc s ver off) = (rwAt st.mems (loc.getD st.d) s).bind fun q => if q.1 = ver then selC false 1 off (q.2.2.map AV.pv) else none := by kernel_rfl
theorem ldr61 (st : St) (loc : Option Nat) (s ver off : Nat) : aload PP st 61 (.rptr loc s ver off) = (rwAt st.mems (loc.getD st.d) s).bind fun q => if q.1 = ver then selC true 3 off (q.2.2.map AV.pv) else none := by kernel_rfl
theorem ldr64 (st : St) (loc : Option Nat) (s ver off : Nat) : aload PP st 64 (.rptr loc s ver off) = (rwAt st.mems (loc.getD st.d) s).bind fun q => if q.1 = ver then selC true 4 off (q.2.2.map AV.pv) else none := by kernel_rfl
theorem ldr67 (st : St) (loc : Option Nat) (s ver off : Nat) : aload PP st 67 (.rptr loc s ver off) = (rwAt st.mems (loc.getD st.d) s).bind fun q => if q.1 = ver then selC true 7 off (q.2.2.map AV.pv) else none := by kernel_rfl
theorem ldr73 (st : St) (loc : Option Nat) (s ver off : Nat) : aload PP st 73 (.rptr loc s ver off) = (rwAt st.mems (loc.getD st.d) s).bind fun q => if q.1 = ver then selC true 5 off (q.2.2.map AV.pv) else none := by kernel_rfl
theorem ldr75 (st : St) (loc : Option Nat) (s ver off : Nat) : aload PP st 75 (.rptr loc s ver off) = (rwAt st.mems (loc.getD st.d) s).bind fun q => if q.1 = ver then selC false 1 off (q.2.2.map AV.pv) else none := by kernel_rfl
theorem ldr81 (st : St) (loc : Option Nat) (s ver off : Nat) : aload PP st 81 (.rptr loc s ver off) = (rwAt st.mems (loc.getD st.d) s).bind fun q => if q.1 = ver then selC false 1 off (q.2.2.map AV.pv) else none := by kernel_rfl
theorem ldr9 (st : St) (loc : Option Nat) (s ver off : Nat) : aload PP st 9 (.rptr loc s ver off) = (rwAt st.mems (loc.getD st.d) s).bind fun q => if q.1 = ver then selC false 1 off (q.2.2.map AV.pv) else none := by kernel_rfl
theorem ln22 (x : AV) : alen PP 22 x = lenC x := by kernel_rfl
theorem ln23 (x : AV) : alen PP 23 x = lenC x := by kernel_rfl
theorem ln26 (x : AV) : alen PP 26 x = lenC x := by kernel_rfl
theorem ln31 (x : AV) : alen PP 31 x = lenC x := by kernel_rfl
theorem ln75 (x : AV) : alen PP 75 x = lenC x := by kernel_rfl
theorem ln9 (s : ByteArray) : alen PP 9 (.pv (.str s)) = some (.pv (.int .i64 s.size)) := by kernel_rfl
theorem mg96 (st : St) (loc : Option Nat) (s : Nat) (kk : IntKind) (n : Int) (ok : Bool) : amapGet PP st 96 (.mref loc s) (.pv (.int kk n)) ok = mapGetC loc ok kk n .junk (entsAt st.mems (loc.getD st.d) s) := amapGet_C (et := 92) (by kernel_rfl) (by kernel_rfl) st loc s kk n ok
theorem mu81 (st : St) (loc : Option Nat) (s : Nat) (kk : IntKind) (n : Int) (x : AV) : amapSet PP st 81 (.mref loc s) (.pv (.int kk n)) x = if locOK st x loc = true then mapSetC st.mems (loc.getD st.d) s kk n x (entsAt st.mems (loc.getD st.d) s) else none := amapSet_C (et := 4) (by kernel_rfl) st loc s kk n x
theorem mu96 (st : St) (loc : Option Nat) (s : Nat) (kk : IntKind) (n : Int) (x : AV) : amapSet PP st 96 (.mref loc s) (.pv (.int kk n)) x = if locOK st x loc = true then mapSetC st.mems (loc.getD st.d) s kk n x (entsAt st.mems (loc.getD st.d) s) else none := amapSet_C (et := 92) (by kernel_rfl) st loc s kk n x
theorem sl22 (x : AV) (lo hi : Option AV) : aslice PP 22 x lo hi = sliceC 7 x lo hi := aslice_C (el := 67) (by kernel_rfl) (by kernel_rfl) x lo hi
theorem sl31 (x : AV) (lo hi : Option AV) : aslice PP 31 x lo hi = sliceC 1 x lo hi := aslice_C (el := 3) (by kernel_rfl) (by kernel_rfl) x lo hi
theorem sl9 (s : ByteArray) (lo hi : Option AV) : aslice PP 9 (.pv (.str s)) lo hi = (abound hi s.size s.size).bind fun h => (abound lo 0 h).map fun l => .pv (.str (s.extract l h)) := by kernel_rfl
theorem st23 (st : St) (s off : Nat) (x : AV) : astore PP st 23 (.ptr none s off) x = if x.isJunk = false ∧ x.cells.length = 1 ∧ x.cells.all AV.single = true then (okC (varAt st.mems st.d s)).bind fun cs => if off + 1 ≤ cs.length then some (.junk, setVar st.mems st.d s (splice cs off x.cells)) else none else none := by kernel_rfl
theorem st25 (st : St) (s off : Nat) (x : AV) : astore PP st 25 (.ptr none s off) x = if x.isJunk = false ∧ x.cells.length = 4 ∧ x.cells.all AV.single = true then (okC (varAt st.mems st.d s)).bind fun cs => if off + 4 ≤ cs.length then some (.junk, setVar st.mems st.d s (splice cs off x.cells)) else none else none := by kernel_rfl
theorem st3 (st : St) (s off : Nat) (x : AV) : astore PP st 3 (.ptr none s off) x = if x.isJunk = false ∧ x.cells.length = 1 ∧ x.cells.all AV.single = true then (okC (varAt st.mems st.d s)).bind fun cs => if off + 1 ≤ cs.length then some (.junk, setVar st.mems st.d s (splice cs off x.cells)) else none else none := by kernel_rfl
theorem st34 (st : St) (s off : Nat) (x : AV) : astore PP st 34 (.ptr none s off) x = if x.isJunk = false ∧ x.cells.length = 3 ∧ x.cells.all AV.single = true then (okC (varAt st.mems st.d s)).bind fun cs => if off + 3 ≤ cs.length then some (.junk, setVar st.mems st.d s (splice cs off x.cells)) else none else none := by kernel_rfl
theorem st4 (st : St) (s off : Nat) (x : AV) : astore PP st 4 (.ptr none s off) x = if x.isJunk = false ∧ x.cells.length = 1 ∧ x.cells.all AV.single = true then (okC (varAt st.mems st.d s)).bind fun cs => if off + 1 ≤ cs.length then some (.junk, setVar st.mems st.d s (splice cs off x.cells)) else none else none := by kernel_rfl
theorem st40 (st : St) (s off : Nat) (x : AV) : astore PP st 40 (.ptr none s off) x = if x.isJunk = false ∧ x.cells.length = 4 ∧ x.cells.all AV.single = true then (okC (varAt st.mems st.d s)).bind fun cs => if off + 4 ≤ cs.length then some (.junk, setVar st.mems st.d s (splice cs off x.cells)) else none else none := by kernel_rfl
theorem st67 (st : St) (s off : Nat) (x : AV) : astore PP st 67 (.ptr none s off) x = if x.isJunk = false ∧ x.cells.length = 7 ∧ x.cells.all AV.single = true then (okC (varAt st.mems st.d s)).bind fun cs => if off + 7 ≤ cs.length then some (.junk, setVar st.mems st.d s (splice cs off x.cells)) else none else none := by kernel_rfl
theorem st73 (st : St) (s off : Nat) (x : AV) : astore PP st 73 (.ptr none s off) x = if x.isJunk = false ∧ x.cells.length = 5 ∧ x.cells.all AV.single = true then (okC (varAt st.mems st.d s)).bind fun cs => if off + 5 ≤ cs.length then some (.junk, setVar st.mems st.d s (splice cs off x.cells)) else none else none := by kernel_rfl
theorem st75 (st : St) (s off : Nat) (x : AV) : astore PP st 75 (.ptr none s off) x = if x.isJunk = false ∧ x.cells.length = 1 ∧ x.cells.all AV.single = true then (okC (varAt st.mems st.d s)).bind fun cs => if off + 1 ≤ cs.length then some (.junk, setVar st.mems st.d s (splice cs off x.cells)) else none else none := by kernel_rfl
theorem st81 (st : St) (s off : Nat) (x : AV) : astore PP st 81 (.ptr none s off) x = if x.isJunk = false ∧ x.cells.length = 1 ∧ x.cells.all AV.single = true then (okC (varAt st.mems st.d s)).bind fun cs => if off + 1 ≤ cs.length then some (.junk, setVar st.mems st.d s (splice cs off x.cells)) else none else none := by kernel_rfl
theorem sto23 (st : St) (d s off : Nat) (x : AV) : astore PP st 23 (.ptr (some d) s off) x = if x.isJunk = false ∧ x.cells.length = 1 ∧ x.cells.all AV.single = true then (okC (varAt st.mems d s)).bind fun cs => if off + 1 ≤ cs.length ∧ closeds (d + 1) x.cells = true ∧ d ≤ st.d then some (.junk, setVar st.mems d s (splice cs off x.cells)) else none else none := by kernel_rfl
theorem sto25 (st : St) (d s off : Nat) (x : AV) : astore PP st 25 (.ptr (some d) s off) x = if x.isJunk = false ∧ x.cells.length = 4 ∧ x.cells.all AV.single = true then (okC (varAt st.mems d s)).bind fun cs => if off + 4 ≤ cs.length ∧ closeds (d + 1) x.cells = true ∧ d ≤ st.d then some (.junk, setVar st.mems d s (splice cs off x.cells)) else none else none := by kernel_rfl
theorem sto3 (st : St) (d s off : Nat) (x : AV) : astore PP st 3 (.ptr (some d) s off) x = if x.isJunk = false ∧ x.cells.length = 1 ∧ x.cells.all AV.single = true then (okC (varAt st.mems d s)).bind fun cs => if off + 1 ≤ cs.length ∧ closeds (d + 1) x.cells = true ∧ d ≤ st.d then some (.junk, setVar st.mems d s (splice cs off x.cells)) else none else none := by kernel_rfl
theorem sto34 (st : St) (d s off : Nat) (x : AV) : astore PP st 34 (.ptr (some d) s off) x = if x.isJunk = false ∧ x.cells.length = 3 ∧ x.cells.all AV.single = true then (okC (varAt st.mems d s)).bind fun cs => if off + 3 ≤ cs.length ∧ closeds (d + 1) x.cells = true ∧ d ≤ st.d then some (.junk, setVar st.mems d s (splice cs off x.cells)) else none else none := by kernel_rfl
theorem sto4 (st : St) (d s off : Nat) (x : AV) : astore PP st 4 (.ptr (some d) s off) x = if x.isJunk = false ∧ x.cells.length = 1 ∧ x.cells.all AV.single = true then (okC (varAt st.mems d s)).bind fun cs => if off + 1 ≤ cs.length ∧ closeds (d + 1) x.cells = true ∧ d ≤ st.d then some (.junk, setVar st.mems d s (splice cs off x.cells)) else none else none := by kernel_rfl
theorem sto40 (st : St) (d s off : Nat) (x : AV) : astore PP st 40 (.ptr (some d) s off) x = if x.isJunk = false ∧ x.cells.length = 4 ∧ x.cells.all AV.single = true then (okC (varAt st.mems d s)).bind fun cs => if off + 4 ≤ cs.length ∧ closeds (d + 1) x.cells = true ∧ d ≤ st.d then some (.junk, setVar st.mems d s (splice cs off x.cells)) else none else none := by kernel_rfl
theorem sto67 (st : St) (d s off : Nat) (x : AV) : astore PP st 67 (.ptr (some d) s off) x = if x.isJunk = false ∧ x.cells.length = 7 ∧ x.cells.all AV.single = true then (okC (varAt st.mems d s)).bind fun cs => if off + 7 ≤ cs.length ∧ closeds (d + 1) x.cells = true ∧ d ≤ st.d then some (.junk, setVar st.mems d s (splice cs off x.cells)) else none else none := by kernel_rfl
theorem sto73 (st : St) (d s off : Nat) (x : AV) : astore PP st 73 (.ptr (some d) s off) x = if x.isJunk = false ∧ x.cells.length = 5 ∧ x.cells.all AV.single = true then (okC (varAt st.mems d s)).bind fun cs => if off + 5 ≤ cs.length ∧ closeds (d + 1) x.cells = true ∧ d ≤ st.d then some (.junk, setVar st.mems d s (splice cs off x.cells)) else none else none := by kernel_rfl
theorem sto75 (st : St) (d s off : Nat) (x : AV) : astore PP st 75 (.ptr (some d) s off) x = if x.isJunk = false ∧ x.cells.length = 1 ∧ x.cells.all AV.single = true then (okC (varAt st.mems d s)).bind fun cs => if off + 1 ≤ cs.length ∧ closeds (d + 1) x.cells = true ∧ d ≤ st.d then some (.junk, setVar st.mems d s (splice cs off x.cells)) else none else none := by kernel_rfl
theorem sto81 (st : St) (d s off : Nat) (x : AV) : astore PP st 81 (.ptr (some d) s off) x = if x.isJunk = false ∧ x.cells.length = 1 ∧ x.cells.all AV.single = true then (okC (varAt st.mems d s)).bind fun cs => if off + 1 ≤ cs.length ∧ closeds (d + 1) x.cells = true ∧ d ≤ st.d then some (.junk, setVar st.mems d s (splice cs off x.cells)) else none else none := by kernel_rfl
theorem str23 (st : St) (loc : Option Nat) (s ver off : Nat) (x : AV) : astore PP st 23 (.rptr loc s ver off) x = if x.isJunk = false ∧ x.cells.length = 1 ∧ x.cells.all AV.single = true then (rwAt st.mems (loc.getD st.d) s).bind fun q => (leaves? x.cells).bind fun ps => if q.1 = ver ∧ 0 < 1 ∧ off + 1 ≤ q.2.2.length then some (.junk, setVar st.mems (loc.getD st.d) s [.mrw q.1 q.2.1 (spliceP q.2.2 off ps)]) else none else none := by kernel_rfl
theorem str25 (st : St) (loc : Option Nat) (s ver off : Nat) (x : AV) : astore PP st 25 (.rptr loc s ver off) x = if x.isJunk = false ∧ x.cells.length = 4 ∧ x.cells.all AV.single = true then (rwAt st.mems (loc.getD st.d) s).bind fun q => (leaves? x.cells).bind fun ps => if q.1 = ver ∧ 0 < 4 ∧ off + 4 ≤ q.2.2.length then some (.junk, setVar st.mems (loc.getD st.d) s [.mrw q.1 q.2.1 (spliceP q.2.2 off ps)]) else none else none := by kernel_rfl
theorem str3 (st : St) (loc : Option Nat) (s ver off : Nat) (x : AV) : astore PP st 3 (.rptr loc s ver off) x = if x.isJunk = false ∧ x.cells.length = 1 ∧ x.cells.all AV.single = true then (rwAt st.mems (loc.getD st.d) s).bind fun q => (leaves? x.cells).bind fun ps => if q.1 = ver ∧ 0 < 1 ∧ off + 1 ≤ q.2.2.length then some (.junk, setVar st.mems (loc.getD st.d) s [.mrw q.1 q.2.1 (spliceP q.2.2 off ps)]) else none else none := by kernel_rfl
theorem str34 (st : St) (loc : Option Nat) (s ver off : Nat) (x : AV) : astore PP st 34 (.rptr loc s ver off) x = if x.isJunk = false ∧ x.cells.length = 3 ∧ x.cells.all AV.single = true then (rwAt st.mems (loc.getD st.d) s).bind fun q => (leaves? x.cells).bind fun ps => if q.1 = ver ∧ 0 < 3 ∧ off + 3 ≤ q.2.2.length then some (.junk, setVar st.mems (loc.getD st.d) s [.mrw q.1 q.2.1 (spliceP q.2.2 off ps)]) else none else none := by kernel_rfl
theorem str4 (st : St) (loc : Option Nat) (s ver off : Nat) (x : AV) : astore PP st 4 (.rptr loc s ver off) x = if x.isJunk = false ∧ x.cells.length = 1 ∧ x.cells.all AV.single = true then (rwAt st.mems (loc.getD st.d) s).bind fun q => (leaves? x.cells).bind fun ps => if q.1 = ver ∧ 0 < 1 ∧ off + 1 ≤ q.2.2.length then some (.junk, setVar st.mems (loc.getD st.d) s [.mrw q.1 q.2.1 (spliceP q.2.2 off ps)]) else none else none := by kernel_rfl
theorem str40 (st : St) (loc : Option Nat) (s ver off : Nat) (x : AV) : astore PP st 40 (.rptr loc s ver off) x = if x.isJunk = false ∧ x.cells.length = 4 ∧ x.cells.all AV.single = true then (rwAt st.mems (loc.getD st.d) s).bind fun q => (leaves? x.cells).bind fun ps => if q.1 = ver ∧ 0 < 4 ∧ off + 4 ≤ q.2.2.length then some (.junk, setVar st.mems (loc.getD st.d) s [.mrw q.1 q.2.1 (spliceP q.2.2 off ps)]) else none else none := by kernel_rfl
theorem str67 (st : St) (loc : Option Nat) (s ver off : Nat) (x : AV) : astore PP st 67 (.rptr loc s ver off) x = if x.isJunk = false ∧ x.cells.length = 7 ∧ x.cells.all AV.single = true then (rwAt st.mems (loc.getD st.d) s).bind fun q => (leaves? x.cells).bind fun ps => if q.1 = ver ∧ 0 < 7 ∧ off + 7 ≤ q.2.2.length then some (.junk, setVar st.mems (loc.getD st.d) s [.mrw q.1 q.2.1 (spliceP q.2.2 off ps)]) else none else none := by kernel_rfl
theorem str73 (st : St) (loc : Option Nat) (s ver off : Nat) (x : AV) : astore PP st 73 (.rptr loc s ver off) x = if x.isJunk = false ∧ x.cells.length = 5 ∧ x.cells.all AV.single = true then (rwAt st.mems (loc.getD st.d) s).bind fun q => (leaves? x.cells).bind fun ps => if q.1 = ver ∧ 0 < 5 ∧ off + 5 ≤ q.2.2.length then some (.junk, setVar st.mems (loc.getD st.d) s [.mrw q.1 q.2.1 (spliceP q.2.2 off ps)]) else none else none := by kernel_rfl
theorem str75 (st : St) (loc : Option Nat) (s ver off : Nat) (x : AV) : astore PP st 75 (.rptr loc s ver off) x = if x.isJunk = false ∧ x.cells.length = 1 ∧ x.cells.all AV.single = true then (rwAt st.mems (loc.getD st.d) s).bind fun q => (leaves? x.cells).bind fun ps => if q.1 = ver ∧ 0 < 1 ∧ off + 1 ≤ q.2.2.length then some (.junk, setVar st.mems (loc.getD st.d) s [.mrw q.1 q.2.1 (spliceP q.2.2 off ps)]) else none else none := by kernel_rfl
theorem str81 (st : St) (loc : Option Nat) (s ver off : Nat) (x : AV) : astore PP st 81 (.rptr loc s ver off) x = if x.isJunk = false ∧ x.cells.length = 1 ∧ x.cells.all AV.single = true then (rwAt st.mems (loc.getD st.d) s).bind fun q => (leaves? x.cells).bind fun ps => if q.1 = ver ∧ 0 < 1 ∧ off + 1 ≤ q.2.2.length then some (.junk, setVar st.mems (loc.getD st.d) s [.mrw q.1 q.2.1 (spliceP q.2.2 off ps)]) else none else none := by kernel_rfl
/-! ### the laws of a run, in one -/
theorem EVT : type_of% (And.intro @Am.asteps_nil (And.intro @Am.asteps_cons (And.intro @Am.stepC_some (And.intro @Am.putC_some (And.intro @Am.putC_no (And.intro @Am.keepC_some (And.intro @Am.thenC_n (And.intro @Am.thenC_r (And.intro @Am.thenC_e (And.intro @Am.blockC_n (And.intro @Am.blockC_r (And.intro @Am.blockC_e (And.intro @Am.normalC_s (And.intro @Am.astep_n (And.intro @Am.astep_g (And.intro @Am.put_some (And.intro @Am.put_no (And.intro @Am.aop_move (And.intro @Am.aop_assign (And.intro @Am.aop_pick (And.intro @Am.aop_box (And.intro @Am.aop_load (And.intro @Am.aop_store (And.intro @Am.aop_bin (And.intro @Am.aop_un (And.intro @Am.aop_fieldAddr (And.intro @Am.aop_field (And.intro @Am.aop_indexAddr (And.intro @Am.aop_slice (And.intro @Am.aop_slice3 (And.intro @Am.aop_make (And.intro @Am.aop_nilCheck (And.intro @Am.aop_makeMap (And.intro @Am.aop_mapUpdate (And.intro @Am.aop_insert (And.intro @Am.aop_lookup (And.intro @Am.aop_extract (And.intro @Am.aop_makeFunc (And.intro @Am.aop_build (And.intro @Am.aop_buildSlice (And.intro @Am.aop_len (And.intro @Am.aop_min (And.intro @Am.aop_max (And.intro @Am.aop_app (And.intro @Am.aop_call (And.intro @Am.eval_tmp (And.intro @Am.eval_int (And.intro @Am.eval_bool (And.intro @Am.eval_str (And.intro @Am.eval_nil (And.intro @Am.eval_func (And.intro @Am.getD_z (And.intro @Am.getD_s (And.intro @Am.d_cons (And.intro @Am.anew_top (And.intro @Am.look_hit (And.intro @Am.look_miss (And.intro @Am.look_nil (And.intro @Am.setAt_nil (And.intro @Am.setAt_hit (And.intro @Am.setAt_miss (And.intro @Am.leave_ret (And.intro @Am.leave_normal (And.intro @Am.leaveR_ret (And.intro @Am.leaveR_normal (And.intro @Am.appendC_mk (And.intro @Am.slc_mk (And.intro @Am.leaf_mk (And.intro @Am.plain_mk (And.intro @Am.exp_mk (And.intro @Am.junk_mk (And.intro @Am.cells_mk (And.intro @Am.single_mk (And.intro @Am.forget_mk (And.intro @Am.abin_int (And.intro @Am.abin_str (And.intro @Am.cells_pv (And.intro @Am.cells_full (And.intro @Am.cells_own (And.intro @Am.cells_agg (And.intro @Am.cells_ptr (And.intro @Am.cells_eptr (And.intro @Am.cells_func (And.intro @Am.junk_pv (And.intro @Am.junk_full (And.intro @Am.junk_own (And.intro @Am.junk_agg (And.intro @Am.junk_ptr (And.intro @Am.junk_eptr (And.intro @Am.junk_func (And.intro @Am.single_pv (And.intro @Am.single_full (And.intro @Am.single_own (And.intro @Am.single_ptr (And.intro @Am.single_eptr (And.intro @Am.single_func (And.intro @Am.plain_pv (And.intro @Am.plain_full (And.intro @Am.plain_own (And.intro @Am.plain_agg (And.intro @Am.plain_tup (And.intro @Am.plain_ptr (And.intro @Am.plain_eptr (And.intro @Am.plain_func (And.intro @Am.plain_junk (And.intro @Am.plains_nil (And.intro @Am.plains_cons (And.intro @Am.exp_pv (And.intro @Am.exp_full (And.intro @Am.exp_own (And.intro @Am.exp_ownS (And.intro @Am.exp_agg (And.intro @Am.exp_tup (And.intro @Am.exp_ptr (And.intro @Am.exp_ptrS (And.intro @Am.exp_eptr (And.intro @Am.exp_func (And.intro @Am.exp_junk (And.intro @Am.exps_nil (And.intro @Am.exps_cons (And.intro @Am.reloc_pv (And.intro @Am.reloc_full (And.intro @Am.reloc_own (And.intro @Am.reloc_ownS (And.intro @Am.reloc_agg (And.intro @Am.reloc_ptr (And.intro @Am.reloc_ptrS (And.intro @Am.reloc_eptr (And.intro @Am.reloc_func (And.intro @Am.reloc_junk (And.intro @Am.relocs_nil (And.intro @Am.relocs_cons (And.intro @Am.closed_pv (And.intro @Am.closed_full (And.intro @Am.closed_ownS (And.intro @Am.closed_ptrS (And.intro @Am.closed_agg (And.intro @Am.closeds_nil (And.intro @Am.closeds_cons (And.intro @Am.slc_pv (And.intro @Am.slc_full (And.intro @Am.slc_own (And.intro @Am.leaf_int (And.intro @Am.leaf_bool (And.intro @Am.leaf_str (And.intro @Am.leaf_slc (And.intro @Am.leaf_full (And.intro @Am.leaf_own (And.intro @Am.leaves_nil (And.intro @Am.leaves_cons (And.intro @Am.pcells_int (And.intro @Am.pcells_bool (And.intro @Am.pcells_str (And.intro @Am.pcells_slc (And.intro @Am.pcells_agg (And.intro @Am.pack_1 (And.intro @Am.pack_2 (And.intro @Am.pack_0 (And.intro @Am.extract_at (And.intro @Am.afill_nil (And.intro @Am.afill_cons (And.intro @Am.fillC_some (And.intro @Am.chunks_z (And.intro @Am.chunks_s (And.intro @Am.min_int (And.intro @Am.max_int (And.intro @Am.aint_add (And.intro @Am.aint_sub (And.intro @Am.aint_mul (And.intro @Am.aint_quo (And.intro @Am.aint_rem (And.intro @Am.aint_eql (And.intro @Am.aint_neq (And.intro @Am.aint_lss (And.intro @Am.aint_leq (And.intro @Am.aint_gtr (And.intro @Am.aint_geq (And.intro @Am.un_not (And.intro @Am.callC_func (And.intro @Am.callF_clean (And.intro @Am.callF_dirty (And.intro @Am.cleanC_some (And.intro @Am.pickC_t (And.intro @Am.guardC_no (And.intro @Am.guardC_t (And.intro @Am.guardR_ptr (And.intro @Am.guardR_eptr (And.intro @Am.guardR_cptr (And.intro @Am.guardR_rptr (And.intro @Am.nilC_ptr (And.intro @Am.nilC_eptr (And.intro @Am.nilC_cptr (And.intro @Am.nilC_rptr (And.intro @Am.cells_row (And.intro @Am.cells_prow (And.intro @Am.junk_row (And.intro @Am.junk_rptr (And.intro @Am.junk_prow (And.intro @Am.single_row (And.intro @Am.single_prow (And.intro @Am.plain_row (And.intro @Am.plain_prow (And.intro @Am.exp_row (And.intro @Am.exp_rowS (And.intro @Am.exp_prow (And.intro @Am.reloc_row (And.intro @Am.reloc_rowS (And.intro @Am.reloc_rptr (And.intro @Am.reloc_prow (And.intro @Am.closed_rowS (And.intro @Am.leaf_ptr (And.intro @Am.leaf_row (And.intro @Am.slc_row (And.intro @Am.lenC_row (And.intro @Am.lenC_prow (And.intro @Am.lenC_pv (And.intro @Am.lenC_full (And.intro @Am.lenC_own (And.intro @Am.lenC_mk (And.intro @Am.index_row (And.intro @Am.index_prow (And.intro @Am.fullO_some (And.intro @Am.fullO_none (And.intro @Am.selC_cell (And.intro @Am.selC_row (And.intro @Am.rwAt_C (And.intro @Am.rwC_hit (And.intro @Am.frz_row (And.intro @Am.appendC_row1 (And.intro @Am.frz_pv (And.intro @Am.frz_full (And.intro @Am.frz_own (And.intro @Am.frz_mk (And.intro @Am.frz_agg (And.intro @Am.frz_tup (And.intro @Am.frz_ptr (And.intro @Am.frz_mref (And.intro @Am.frz_rptr (And.intro @Am.frz_eptr (And.intro @Am.frz_func (And.intro @Am.frz_prow (And.intro @Am.frz_cptr (And.intro @Am.frz_mrw (And.intro @Am.frz_junk (And.intro @Am.frzs_nil (And.intro @Am.frzs_cons (And.intro @Am.frzVars_nil (And.intro @Am.frzVars_cons (And.intro @Am.eval_global (And.intro @Am.glC_some (And.intro @Am.makeC_top (And.intro @Am.cells_mref (And.intro @Am.junk_mref (And.intro @Am.single_mref (And.intro @Am.plain_mref (And.intro @Am.exp_mref (And.intro @Am.exp_mrefS (And.intro @Am.reloc_mref (And.intro @Am.reloc_mrefS (And.intro @Am.closed_mrefS (And.intro @Am.closed_eptr (And.intro @Am.closed_func (And.intro @Am.from_none (And.intro @Am.from_some (And.intro @Am.okC_none (And.intro @Am.okC_two (And.intro @Am.okC_nil (And.intro @Am.okC_pv (And.intro @Am.okC_full (And.intro @Am.okC_own (And.intro @Am.okC_mk (And.intro @Am.okC_ptr (And.intro @Am.okC_eptr (And.intro @Am.okC_agg (And.intro @Am.okC_func (And.intro @Am.okC_mref (And.intro @Am.okC_row (And.intro @Am.okC_junk (And.intro @Am.mapNew_top (And.intro @Am.mapGetC_some (And.intro @Am.idxC_hit (And.intro @Am.idxC_hit2 (And.intro @Am.idxC_miss (And.intro @Am.idxC_miss2 (And.intro @Am.mapSetC_some (And.intro @Am.setC_hit (And.intro @Am.setC_miss (And.intro @Am.locOK_none (And.intro @Am.locOK_some (And.intro @Am.entsAt_C (And.intro @Am.entsC_hit (And.intro @Am.keyIdx_nil (And.intro @Am.keyIdx_cons (And.intro @Am.prepC_none (And.intro @Am.prepC_some (And.intro @Am.flagOf_nil (And.intro @Am.flagOf_no (And.intro @Am.flagOf_seed (And.intro @Am.flagOf_frz (And.intro @Am.flagOf_mark (And.intro @Am.prep_mark (And.intro @Am.prep_noRows (And.intro @Am.preps_nil (And.intro @Am.preps_cons (And.intro @Am.prep_seed (And.intro @Am.seedC_full (And.intro @Am.prep_seedj (And.intro @Am.seedCj_agg (And.intro @Am.seedCc_full (And.intro @Am.seed_top (And.intro @Am.prep_freeze (And.intro @Am.frzC_hit (And.intro @Am.cx_skip (And.intro @Am.cx_label (And.intro @Am.cx_region (And.intro @Am.cx_regionZ (And.intro @Am.cx_drawnZ (And.intro @Am.cx_drawn (And.intro @Am.cx_seq (And.intro @Am.cx_cond (And.intro @Am.cx_block (And.intro @Am.cx_loop (And.intro @Am.cx_exit (And.intro @Am.cx_ret (And.intro @Am.cx_scope (And.intro @Am.condX_true (And.intro @Am.condX_false (And.intro @Am.clean_call (And.intro @Am.clean_still (And.intro @Am.still_some (And.intro @Am.un_neg (And.intro @Am.str_add (And.intro @Am.str_eql (And.intro @Am.str_neq (And.intro @Am.str_lss (And.intro @Am.str_leq (And.intro @Am.bound_none (And.intro @Am.bound_some (And.intro @Am.varAt_cons (And.intro @Am.setVar_cons (And.intro @Am.tokAt_cons (And.intro @Am.setTok_cons (And.intro @eq_self.{1} (And.intro @List.length_map.{0, 0} (And.intro @List.set_cons_zero.{0} (And.intro @List.set_cons_succ.{0} (And.intro @List.length_cons.{0} (And.intro @List.length_nil.{0} (And.intro @List.map_cons.{0, 0} (And.intro @List.map_nil.{0, 0} (And.intro @List.cons_append.{0} (And.intro @List.nil_append.{0} (And.intro @List.append_nil.{0} (And.intro @List.drop_zero.{0} (And.intro @List.drop_succ_cons.{0} (And.intro @List.take_succ_cons.{0} (And.intro @List.take_zero.{0} (And.intro @List.drop_nil.{0} (And.intro @List.take_nil.{0} (And.intro @List.getElem?_cons_zero.{0} (And.intro @List.getElem?_cons_succ.{0} (And.intro @List.getElem?_nil.{0} (And.intro @List.getElem?_toArray.{0} (And.intro @Option.bind_some.{0, 0} (And.intro @Option.map_some.{0, 0} (And.intro @Option.getD_some.{0} (And.intro @Option.isNone_none.{0} (And.intro @Option.isNone_some.{0} (And.intro @if_true.{1} (And.intro @if_false.{1} (And.intro @Bool.false_eq_true (And.intro @decide_true (And.intro @decide_false (And.intro @Bool.and_true (And.intro @Bool.true_and (And.intro @Bool.and_self (And.intro @Bool.not_true (And.intro @Bool.not_false (And.intro @true_and (And.intro @and_true (And.intro @and_self (And.intro @ne_eq.{1} (And.intro @not_false_eq_true (And.intro @List.all_cons.{0} (And.intro @List.all_nil.{0} (And.intro @Nat.zero_add (And.intro @Nat.add_zero (And.intro @List.tail_cons.{0} (And.intro @Option.bind_none.{0, 0} (And.intro @Option.map_none.{0, 0} (And.intro @List.replicate_succ.{0} (And.intro @List.replicate_zero.{0} (And.intro @List.isEmpty_nil.{0} (And.intro @List.isEmpty_cons.{0} (And.intro @List.headD_cons.{0} (And.intro @List.headD_nil.{0} (And.intro @List.append_assoc.{0} (And.intro @al25 (And.intro @al3 (And.intro @al34 (And.intro @al4 (And.intro @al40 (And.intro @al67 (And.intro @al73 (And.intro @al75 (And.intro @al81 (And.intro @ap23 (And.intro @ap26 (And.intro @ap31 (And.intro @ap71 (And.intro @ap75 (And.intro @bd25 (And.intro @bd34 (And.intro @bd40 (And.intro @bd61 (And.intro @bd64 (And.intro @bd67 (And.intro @bd73 (And.intro @bd95 (And.intro @bs22_1 (And.intro @bs23_1 (And.intro @bs23_2 (And.intro @bs23_3 (And.intro @bs26_0 (And.intro @bs26_1 (And.intro @bs26_2 (And.intro @bs31_0 (And.intro @bs31_1 (And.intro @bs31_2 (And.intro @bs31_3 (And.intro @bs71_1 (And.intro @bs75_1 (And.intro @cb10 (And.intro @cb100 (And.intro @cb101 (And.intro @cb102 (And.intro @cb103 (And.intro @cb104 (And.intro @cb105 (And.intro @cb106 (And.intro @cb107 (And.intro @cb11 (And.intro @cb119 (And.intro @cb12 (And.intro @cb120 (And.intro @cb13 (And.intro @cb14 (And.intro @cb15 (And.intro @cb16 (And.intro @cb17 (And.intro @cb18 (And.intro @cb19 (And.intro @cb20 (And.intro @cb21 (And.intro @cb22 (And.intro @cb23 (And.intro @cb24 (And.intro @cb25 (And.intro @cb26 (And.intro @cb27 (And.intro @cb28 (And.intro @cb29 (And.intro @cb30 (And.intro @cb31 (And.intro @cb32 (And.intro @cb33 (And.intro @cb34 (And.intro @cb35 (And.intro @cb36 (And.intro @cb37 (And.intro @cb38 (And.intro @cb39 (And.intro @cb40 (And.intro @cb41 (And.intro @cb42 (And.intro @cb43 (And.intro @cb44 (And.intro @cb45 (And.intro @cb46 (And.intro @cb47 (And.intro @cb48 (And.intro @cb49 (And.intro @cb50 (And.intro @cb51 (And.intro @cb52 (And.intro @cb53 (And.intro @cb54 (And.intro @cb55 (And.intro @cb56 (And.intro @cb57 (And.intro @cb58 (And.intro @cb60 (And.intro @cb61 (And.intro @cb62 (And.intro @cb63 (And.intro @cb64 (And.intro @cb65 (And.intro @cb66 (And.intro @cb67 (And.intro @cb80 (And.intro @cb81 (And.intro @cb82 (And.intro @cb83 (And.intro @cb84 (And.intro @cb85 (And.intro @cb86 (And.intro @cb9 (And.intro @cb90 (And.intro @cb91 (And.intro @cb92 (And.intro @cb93 (And.intro @cb94 (And.intro @cb95 (And.intro @cb99 (And.intro @eq34eql (And.intro @eq34neq (And.intro @eqb4eql (And.intro @eqb4neq (And.intro @fa25_0 (And.intro @fa25_1 (And.intro @fa25_2 (And.intro @fa25_3 (And.intro @fa34_0 (And.intro @fa34_1 (And.intro @fa34_2 (And.intro @fa40_0 (And.intro @fa40_1 (And.intro @fa61_0 (And.intro @fa61_1 (And.intro @fa61_2 (And.intro @fa64_0 (And.intro @fa64_1 (And.intro @fa64_2 (And.intro @fa64_3 (And.intro @fa67_1 (And.intro @fa67_2 (And.intro @fa67_3 (And.intro @fa73_0 (And.intro @fa73_1 (And.intro @fa95_0 (And.intro @fa95_1 (And.intro @fe25_0 (And.intro @fe25_1 (And.intro @fe25_2 (And.intro @fe25_3 (And.intro @fe34_0 (And.intro @fe34_1 (And.intro @fe34_2 (And.intro @fe40_0 (And.intro @fe40_1 (And.intro @fe61_0 (And.intro @fe61_1 (And.intro @fe61_2 (And.intro @fe64_0 (And.intro @fe64_1 (And.intro @fe64_2 (And.intro @fe64_3 (And.intro @fe67_1 (And.intro @fe67_2 (And.intro @fe67_3 (And.intro @fe73_0 (And.intro @fe73_1 (And.intro @fe95_0 (And.intro @fe95_1 (And.intro @fr25_0 (And.intro @fr25_1 (And.intro @fr25_2 (And.intro @fr25_3 (And.intro @fr34_0 (And.intro @fr34_1 (And.intro @fr34_2 (And.intro @fr40_0 (And.intro @fr40_1 (And.intro @fr61_0 (And.intro @fr61_1 (And.intro @fr61_2 (And.intro @fr64_0 (And.intro @fr64_1 (And.intro @fr64_2 (And.intro @fr64_3 (And.intro @fr67_1 (And.intro @fr67_2 (And.intro @fr67_3 (And.intro @fr73_0 (And.intro @fr73_1 (And.intro @fr95_0 (And.intro @fr95_1 (And.intro @fv34_1 (And.intro @fv40_0 (And.intro @fv40_1 (And.intro @ix22 (And.intro @ix23 (And.intro @ix26 (And.intro @ix31 (And.intro @ix71 (And.intro @ix75 (And.intro @ld22 (And.intro @ld23 (And.intro @ld25 (And.intro @ld26 (And.intro @ld3 (And.intro @ld31 (And.intro @ld34 (And.intro @ld4 (And.intro @ld61 (And.intro @ld64 (And.intro @ld67 (And.intro @ld73 (And.intro @ld75 (And.intro @ld81 (And.intro @ld9 (And.intro @lde22 (And.intro @lde23 (And.intro @lde25 (And.intro @lde26 (And.intro @lde3 (And.intro @lde31 (And.intro @lde34 (And.intro @lde4 (And.intro @lde61 (And.intro @lde64 (And.intro @lde67 (And.intro @lde73 (And.intro @lde75 (And.intro @lde81 (And.intro @lde9 (And.intro @ldo22 (And.intro @ldo23 (And.intro @ldo25 (And.intro @ldo26 (And.intro @ldo3 (And.intro @ldo31 (And.intro @ldo34 (And.intro @ldo4 (And.intro @ldo61 (And.intro @ldo64 (And.intro @ldo67 (And.intro @ldo73 (And.intro @ldo75 (And.intro @ldo81 (And.intro @ldo9 (And.intro @ldr22 (And.intro @ldr23 (And.intro @ldr25 (And.intro @ldr26 (And.intro @ldr3 (And.intro @ldr31 (And.intro @ldr34 (And.intro @ldr4 (And.intro @ldr61 (And.intro @ldr64 (And.intro @ldr67 (And.intro @ldr73 (And.intro @ldr75 (And.intro @ldr81 (And.intro @ldr9 (And.intro @ln22 (And.intro @ln23 (And.intro @ln26 (And.intro @ln31 (And.intro @ln75 (And.intro @ln9 (And.intro @mg96 (And.intro @mu81 (And.intro @mu96 (And.intro @sl22 (And.intro @sl31 (And.intro @sl9 (And.intro @st23 (And.intro @st25 (And.intro @st3 (And.intro @st34 (And.intro @st4 (And.intro @st40 (And.intro @st67 (And.intro @st73 (And.intro @st75 (And.intro @st81 (And.intro @sto23 (And.intro @sto25 (And.intro @sto3 (And.intro @sto34 (And.intro @sto4 (And.intro @sto40 (And.intro @sto67 (And.intro @sto73 (And.intro @sto75 (And.intro @sto81 (And.intro @str23 (And.intro @str25 (And.intro @str3 (And.intro @str34 (And.intro @str4 (And.intro @str40 (And.intro @str67 (And.intro @str73 (And.intro @str75 (@str81)))))))))))))))))))))))))))))))))))))))))))))))))))))))))))))))))))))))))))))))))))))))))))))))))))))))))))))))))))))))))))))))))))))))))))))))))))))))))))))))))))))))))))))))))))))))))))))))))))))))))))))))))))))))))))))))))))))))))))))))))))))))))))))))))))))))))))))))))))))))))))))))))))))))))))))))))))))))))))))))))))))))))))))))))))))))))))))))))))))))))))))))))))))))))))))))))))))))))))))))))))))))))))))))))))))))))))))))))))))))))))))))))))))))))))))))))))))))))))))))))))))))))))))))))))))))))))))))))))))))))))))))))))))))))))))))))))))))))))))))))))))))))))))))))))))))))))))))))))))))))))))))))))))))))))))))))))))))))))))))))))))))))))))))))))))))))))))))))))))))))))))))))))))))))) := And.intro @Am.asteps_nil (And.intro @Am.asteps_cons (And.intro @Am.stepC_some (And.intro @Am.putC_some (And.intro @Am.putC_no (And.intro @Am.keepC_some (And.intro @Am.thenC_n (And.intro @Am.thenC_r (And.intro @Am.thenC_e (And.intro @Am.blockC_n (And.intro @Am.blockC_r (And.intro @Am.blockC_e (And.intro @Am.normalC_s (And.intro @Am.astep_n (And.intro @Am.astep_g (And.intro @Am.put_some (And.intro @Am.put_no (And.intro @Am.aop_move (And.intro @Am.aop_assign (And.intro @Am.aop_pick (And.intro @Am.aop_box (And.intro @Am.aop_load (And.intro @Am.aop_store (And.intro @Am.aop_bin (And.intro @Am.aop_un (And.intro @Am.aop_fieldAddr (And.intro @Am.aop_field (And.intro @Am.aop_indexAddr (And.intro @Am.aop_slice (And.intro @Am.aop_slice3 (And.intro @Am.aop_make (And.intro @Am.aop_nilCheck (And.intro @Am.aop_makeMap (And.intro @Am.aop_mapUpdate (And.intro @Am.aop_insert (And.intro @Am.aop_lookup (And.intro @Am.aop_extract (And.intro @Am.aop_makeFunc (And.intro @Am.aop_build (And.intro @Am.aop_buildSlice (And.intro @Am.aop_len (And.intro @Am.aop_min (And.intro @Am.aop_max (And.intro @Am.aop_app (And.intro @Am.aop_call (And.intro @Am.eval_tmp (And.intro @Am.eval_int (And.intro @Am.eval_bool (And.intro @Am.eval_str (And.intro @Am.eval_nil (And.intro @Am.eval_func (And.intro @Am.getD_z (And.intro @Am.getD_s (And.intro @Am.d_cons (And.intro @Am.anew_top (And.intro @Am.look_hit (And.intro @Am.look_miss (And.intro @Am.look_nil (And.intro @Am.setAt_nil (And.intro @Am.setAt_hit (And.intro @Am.setAt_miss (And.intro @Am.leave_ret (And.intro @Am.leave_normal (And.intro @Am.leaveR_ret (And.intro @Am.leaveR_normal (And.intro @Am.appendC_mk (And.intro @Am.slc_mk (And.intro @Am.leaf_mk (And.intro @Am.plain_mk (And.intro @Am.exp_mk (And.intro @Am.junk_mk (And.intro @Am.cells_mk (And.intro @Am.single_mk (And.intro @Am.forget_mk (And.intro @Am.abin_int (And.intro @Am.abin_str (And.intro @Am.cells_pv (And.intro @Am.cells_full (And.intro @Am.cells_own (And.intro @Am.cells_agg (And.intro @Am.cells_ptr (And.intro @Am.cells_eptr (And.intro @Am.cells_func (And.intro @Am.junk_pv (And.intro @Am.junk_full (And.intro @Am.junk_own (And.intro @Am.junk_agg (And.intro @Am.junk_ptr (And.intro @Am.junk_eptr (And.intro @Am.junk_func (And.intro @Am.single_pv (And.intro @Am.single_full (And.intro @Am.single_own (And.intro @Am.single_ptr (And.intro @Am.single_eptr (And.intro @Am.single_func (And.intro @Am.plain_pv (And.intro @Am.plain_full (And.intro @Am.plain_own (And.intro @Am.plain_agg (And.intro @Am.plain_tup (And.intro @Am.plain_ptr (And.intro @Am.plain_eptr (And.intro @Am.plain_func (And.intro @Am.plain_junk (And.intro @Am.plains_nil (And.intro @Am.plains_cons (And.intro @Am.exp_pv (And.intro @Am.exp_full (And.intro @Am.exp_own (And.intro @Am.exp_ownS (And.intro @Am.exp_agg (And.intro @Am.exp_tup (And.intro @Am.exp_ptr (And.intro @Am.exp_ptrS (And.intro @Am.exp_eptr (And.intro @Am.exp_func (And.intro @Am.exp_junk (And.intro @Am.exps_nil (And.intro @Am.exps_cons (And.intro @Am.reloc_pv (And.intro @Am.reloc_full (And.intro @Am.reloc_own (And.intro @Am.reloc_ownS (And.intro @Am.reloc_agg (And.intro @Am.reloc_ptr (And.intro @Am.reloc_ptrS (And.intro @Am.reloc_eptr (And.intro @Am.reloc_func (And.intro @Am.reloc_junk (And.intro @Am.relocs_nil (And.intro @Am.relocs_cons (And.intro @Am.closed_pv (And.intro @Am.closed_full (And.intro @Am.closed_ownS (And.intro @Am.closed_ptrS (And.intro @Am.closed_agg (And.intro @Am.closeds_nil (And.intro @Am.closeds_cons (And.intro @Am.slc_pv (And.intro @Am.slc_full (And.intro @Am.slc_own (And.intro @Am.leaf_int (And.intro @Am.leaf_bool (And.intro @Am.leaf_str (And.intro @Am.leaf_slc (And.intro @Am.leaf_full (And.intro @Am.leaf_own (And.intro @Am.leaves_nil (And.intro @Am.leaves_cons (And.intro @Am.pcells_int (And.intro @Am.pcells_bool (And.intro @Am.pcells_str (And.intro @Am.pcells_slc (And.intro @Am.pcells_agg (And.intro @Am.pack_1 (And.intro @Am.pack_2 (And.intro @Am.pack_0 (And.intro @Am.extract_at (And.intro @Am.afill_nil (And.intro @Am.afill_cons (And.intro @Am.fillC_some (And.intro @Am.chunks_z (And.intro @Am.chunks_s (And.intro @Am.min_int (And.intro @Am.max_int (And.intro @Am.aint_add (And.intro @Am.aint_sub (And.intro @Am.aint_mul (And.intro @Am.aint_quo (And.intro @Am.aint_rem (And.intro @Am.aint_eql (And.intro @Am.aint_neq (And.intro @Am.aint_lss (And.intro @Am.aint_leq (And.intro @Am.aint_gtr (And.intro @Am.aint_geq (And.intro @Am.un_not (And.intro @Am.callC_func (And.intro @Am.callF_clean (And.intro @Am.callF_dirty (And.intro @Am.cleanC_some (And.intro @Am.pickC_t (And.intro @Am.guardC_no (And.intro @Am.guardC_t (And.intro @Am.guardR_ptr (And.intro @Am.guardR_eptr (And.intro @Am.guardR_cptr (And.intro @Am.guardR_rptr (And.intro @Am.nilC_ptr (And.intro @Am.nilC_eptr (And.intro @Am.nilC_cptr (And.intro @Am.nilC_rptr (And.intro @Am.cells_row (And.intro @Am.cells_prow (And.intro @Am.junk_row (And.intro @Am.junk_rptr (And.intro @Am.junk_prow (And.intro @Am.single_row (And.intro @Am.single_prow (And.intro @Am.plain_row (And.intro @Am.plain_prow (And.intro @Am.exp_row (And.intro @Am.exp_rowS (And.intro @Am.exp_prow (And.intro @Am.reloc_row (And.intro @Am.reloc_rowS (And.intro @Am.reloc_rptr (And.intro @Am.reloc_prow (And.intro @Am.closed_rowS (And.intro @Am.leaf_ptr (And.intro @Am.leaf_row (And.intro @Am.slc_row (And.intro @Am.lenC_row (And.intro @Am.lenC_prow (And.intro @Am.lenC_pv (And.intro @Am.lenC_full (And.intro @Am.lenC_own (And.intro @Am.lenC_mk (And.intro @Am.index_row (And.intro @Am.index_prow (And.intro @Am.fullO_some (And.intro @Am.fullO_none (And.intro @Am.selC_cell (And.intro @Am.selC_row (And.intro @Am.rwAt_C (And.intro @Am.rwC_hit (And.intro @Am.frz_row (And.intro @Am.appendC_row1 (And.intro @Am.frz_pv (And.intro @Am.frz_full (And.intro @Am.frz_own (And.intro @Am.frz_mk (And.intro @Am.frz_agg (And.intro @Am.frz_tup (And.intro @Am.frz_ptr (And.intro @Am.frz_mref (And.intro @Am.frz_rptr (And.intro @Am.frz_eptr (And.intro @Am.frz_func (And.intro @Am.frz_prow (And.intro @Am.frz_cptr (And.intro @Am.frz_mrw (And.intro @Am.frz_junk (And.intro @Am.frzs_nil (And.intro @Am.frzs_cons (And.intro @Am.frzVars_nil (And.intro @Am.frzVars_cons (And.intro @Am.eval_global (And.intro @Am.glC_some (And.intro @Am.makeC_top (And.intro @Am.cells_mref (And.intro @Am.junk_mref (And.intro @Am.single_mref (And.intro @Am.plain_mref (And.intro @Am.exp_mref (And.intro @Am.exp_mrefS (And.intro @Am.reloc_mref (And.intro @Am.reloc_mrefS (And.intro @Am.closed_mrefS (And.intro @Am.closed_eptr (And.intro @Am.closed_func (And.intro @Am.from_none (And.intro @Am.from_some (And.intro @Am.okC_none (And.intro @Am.okC_two (And.intro @Am.okC_nil (And.intro @Am.okC_pv (And.intro @Am.okC_full (And.intro @Am.okC_own (And.intro @Am.okC_mk (And.intro @Am.okC_ptr (And.intro @Am.okC_eptr (And.intro @Am.okC_agg (And.intro @Am.okC_func (And.intro @Am.okC_mref (And.intro @Am.okC_row (And.intro @Am.okC_junk (And.intro @Am.mapNew_top (And.intro @Am.mapGetC_some (And.intro @Am.idxC_hit (And.intro @Am.idxC_hit2 (And.intro @Am.idxC_miss (And.intro @Am.idxC_miss2 (And.intro @Am.mapSetC_some (And.intro @Am.setC_hit (And.intro @Am.setC_miss (And.intro @Am.locOK_none (And.intro @Am.locOK_some (And.intro @Am.entsAt_C (And.intro @Am.entsC_hit (And.intro @Am.keyIdx_nil (And.intro @Am.keyIdx_cons (And.intro @Am.prepC_none (And.intro @Am.prepC_some (And.intro @Am.flagOf_nil (And.intro @Am.flagOf_no (And.intro @Am.flagOf_seed (And.intro @Am.flagOf_frz (And.intro @Am.flagOf_mark (And.intro @Am.prep_mark (And.intro @Am.prep_noRows (And.intro @Am.preps_nil (And.intro @Am.preps_cons (And.intro @Am.prep_seed (And.intro @Am.seedC_full (And.intro @Am.prep_seedj (And.intro @Am.seedCj_agg (And.intro @Am.seedCc_full (And.intro @Am.seed_top (And.intro @Am.prep_freeze (And.intro @Am.frzC_hit (And.intro @Am.cx_skip (And.intro @Am.cx_label (And.intro @Am.cx_region (And.intro @Am.cx_regionZ (And.intro @Am.cx_drawnZ (And.intro @Am.cx_drawn (And.intro @Am.cx_seq (And.intro @Am.cx_cond (And.intro @Am.cx_block (And.intro @Am.cx_loop (And.intro @Am.cx_exit (And.intro @Am.cx_ret (And.intro @Am.cx_scope (And.intro @Am.condX_true (And.intro @Am.condX_false (And.intro @Am.clean_call (And.intro @Am.clean_still (And.intro @Am.still_some (And.intro @Am.un_neg (And.intro @Am.str_add (And.intro @Am.str_eql (And.intro @Am.str_neq (And.intro @Am.str_lss (And.intro @Am.str_leq (And.intro @Am.bound_none (And.intro @Am.bound_some (And.intro @Am.varAt_cons (And.intro @Am.setVar_cons (And.intro @Am.tokAt_cons (And.intro @Am.setTok_cons (And.intro @eq_self.{1} (And.intro @List.length_map.{0, 0} (And.intro @List.set_cons_zero.{0} (And.intro @List.set_cons_succ.{0} (And.intro @List.length_cons.{0} (And.intro @List.length_nil.{0} (And.intro @List.map_cons.{0, 0} (And.intro @List.map_nil.{0, 0} (And.intro @List.cons_append.{0} (And.intro @List.nil_append.{0} (And.intro @List.append_nil.{0} (And.intro @List.drop_zero.{0} (And.intro @List.drop_succ_cons.{0} (And.intro @List.take_succ_cons.{0} (And.intro @List.take_zero.{0} (And.intro @List.drop_nil.{0} (And.intro @List.take_nil.{0} (And.intro @List.getElem?_cons_zero.{0} (And.intro @List.getElem?_cons_succ.{0} (And.intro @List.getElem?_nil.{0} (And.intro @List.getElem?_toArray.{0} (And.intro @Option.bind_some.{0, 0} (And.intro @Option.map_some.{0, 0} (And.intro @Option.getD_some.{0} (And.intro @Option.isNone_none.{0} (And.intro @Option.isNone_some.{0} (And.intro @if_true.{1} (And.intro @if_false.{1} (And.intro @Bool.false_eq_true (And.intro @decide_true (And.intro @decide_false (And.intro @Bool.and_true (And.intro @Bool.true_and (And.intro @Bool.and_self (And.intro @Bool.not_true (And.intro @Bool.not_false (And.intro @true_and (And.intro @and_true (And.intro @and_self (And.intro @ne_eq.{1} (And.intro @not_false_eq_true (And.intro @List.all_cons.{0} (And.intro @List.all_nil.{0} (And.intro @Nat.zero_add (And.intro @Nat.add_zero (And.intro @List.tail_cons.{0} (And.intro @Option.bind_none.{0, 0} (And.intro @Option.map_none.{0, 0} (And.intro @List.replicate_succ.{0} (And.intro @List.replicate_zero.{0} (And.intro @List.isEmpty_nil.{0} (And.intro @List.isEmpty_cons.{0} (And.intro @List.headD_cons.{0} (And.intro @List.headD_nil.{0} (And.intro @List.append_assoc.{0} (And.intro @al25 (And.intro @al3 (And.intro @al34 (And.intro @al4 (And.intro @al40 (And.intro @al67 (And.intro @al73 (And.intro @al75 (And.intro @al81 (And.intro @ap23 (And.intro @ap26 (And.intro @ap31 (And.intro @ap71 (And.intro @ap75 (And.intro @bd25 (And.intro @bd34 (And.intro @bd40 (And.intro @bd61 (And.intro @bd64 (And.intro @bd67 (And.intro @bd73 (And.intro @bd95 (And.intro @bs22_1 (And.intro @bs23_1 (And.intro @bs23_2 (And.intro @bs23_3 (And.intro @bs26_0 (And.intro @bs26_1 (And.intro @bs26_2 (And.intro @bs31_0 (And.intro @bs31_1 (And.intro @bs31_2 (And.intro @bs31_3 (And.intro @bs71_1 (And.intro @bs75_1 (And.intro @cb10 (And.intro @cb100 (And.intro @cb101 (And.intro @cb102 (And.intro @cb103 (And.intro @cb104 (And.intro @cb105 (And.intro @cb106 (And.intro @cb107 (And.intro @cb11 (And.intro @cb119 (And.intro @cb12 (And.intro @cb120 (And.intro @cb13 (And.intro @cb14 (And.intro @cb15 (And.intro @cb16 (And.intro @cb17 (And.intro @cb18 (And.intro @cb19 (And.intro @cb20 (And.intro @cb21 (And.intro @cb22 (And.intro @cb23 (And.intro @cb24 (And.intro @cb25 (And.intro @cb26 (And.intro @cb27 (And.intro @cb28 (And.intro @cb29 (And.intro @cb30 (And.intro @cb31 (And.intro @cb32 (And.intro @cb33 (And.intro @cb34 (And.intro @cb35 (And.intro @cb36 (And.intro @cb37 (And.intro @cb38 (And.intro @cb39 (And.intro @cb40 (And.intro @cb41 (And.intro @cb42 (And.intro @cb43 (And.intro @cb44 (And.intro @cb45 (And.intro @cb46 (And.intro @cb47 (And.intro @cb48 (And.intro @cb49 (And.intro @cb50 (And.intro @cb51 (And.intro @cb52 (And.intro @cb53 (And.intro @cb54 (And.intro @cb55 (And.intro @cb56 (And.intro @cb57 (And.intro @cb58 (And.intro @cb60 (And.intro @cb61 (And.intro @cb62 (And.intro @cb63 (And.intro @cb64 (And.intro @cb65 (And.intro @cb66 (And.intro @cb67 (And.intro @cb80 (And.intro @cb81 (And.intro @cb82 (And.intro @cb83 (And.intro @cb84 (And.intro @cb85 (And.intro @cb86 (And.intro @cb9 (And.intro @cb90 (And.intro @cb91 (And.intro @cb92 (And.intro @cb93 (And.intro @cb94 (And.intro @cb95 (And.intro @cb99 (And.intro @eq34eql (And.intro @eq34neq (And.intro @eqb4eql (And.intro @eqb4neq (And.intro @fa25_0 (And.intro @fa25_1 (And.intro @fa25_2 (And.intro @fa25_3 (And.intro @fa34_0 (And.intro @fa34_1 (And.intro @fa34_2 (And.intro @fa40_0 (And.intro @fa40_1 (And.intro @fa61_0 (And.intro @fa61_1 (And.intro @fa61_2 (And.intro @fa64_0 (And.intro @fa64_1 (And.intro @fa64_2 (And.intro @fa64_3 (And.intro @fa67_1 (And.intro @fa67_2 (And.intro @fa67_3 (And.intro @fa73_0 (And.intro @fa73_1 (And.intro @fa95_0 (And.intro @fa95_1 (And.intro @fe25_0 (And.intro @fe25_1 (And.intro @fe25_2 (And.intro @fe25_3 (And.intro @fe34_0 (And.intro @fe34_1 (And.intro @fe34_2 (And.intro @fe40_0 (And.intro @fe40_1 (And.intro @fe61_0 (And.intro @fe61_1 (And.intro @fe61_2 (And.intro @fe64_0 (And.intro @fe64_1 (And.intro @fe64_2 (And.intro @fe64_3 (And.intro @fe67_1 (And.intro @fe67_2 (And.intro @fe67_3 (And.intro @fe73_0 (And.intro @fe73_1 (And.intro @fe95_0 (And.intro @fe95_1 (And.intro @fr25_0 (And.intro @fr25_1 (And.intro @fr25_2 (And.intro @fr25_3 (And.intro @fr34_0 (And.intro @fr34_1 (And.intro @fr34_2 (And.intro @fr40_0 (And.intro @fr40_1 (And.intro @fr61_0 (And.intro @fr61_1 (And.intro @fr61_2 (And.intro @fr64_0 (And.intro @fr64_1 (And.intro @fr64_2 (And.intro @fr64_3 (And.intro @fr67_1 (And.intro @fr67_2 (And.intro @fr67_3 (And.intro @fr73_0 (And.intro @fr73_1 (And.intro @fr95_0 (And.intro @fr95_1 (And.intro @fv34_1 (And.intro @fv40_0 (And.intro @fv40_1 (And.intro @ix22 (And.intro @ix23 (And.intro @ix26 (And.intro @ix31 (And.intro @ix71 (And.intro @ix75 (And.intro @ld22 (And.intro @ld23 (And.intro @ld25 (And.intro @ld26 (And.intro @ld3 (And.intro @ld31 (And.intro @ld34 (And.intro @ld4 (And.intro @ld61 (And.intro @ld64 (And.intro @ld67 (And.intro @ld73 (And.intro @ld75 (And.intro @ld81 (And.intro @ld9 (And.intro @lde22 (And.intro @lde23 (And.intro @lde25 (And.intro @lde26 (And.intro @lde3 (And.intro @lde31 (And.intro @lde34 (And.intro @lde4 (And.intro @lde61 (And.intro @lde64 (And.intro @lde67 (And.intro @lde73 (And.intro @lde75 (And.intro @lde81 (And.intro @lde9 (And.intro @ldo22 (And.intro @ldo23 (And.intro @ldo25 (And.intro @ldo26 (And.intro @ldo3 (And.intro @ldo31 (And.intro @ldo34 (And.intro @ldo4 (And.intro @ldo61 (And.intro @ldo64 (And.intro @ldo67 (And.intro @ldo73 (And.intro @ldo75 (And.intro @ldo81 (And.intro @ldo9 (And.intro @ldr22 (And.intro @ldr23 (And.intro @ldr25 (And.intro @ldr26 (And.intro @ldr3 (And.intro @ldr31 (And.intro @ldr34 (And.intro @ldr4 (And.intro @ldr61 (And.intro @ldr64 (And.intro @ldr67 (And.intro @ldr73 (And.intro @ldr75 (And.intro @ldr81 (And.intro @ldr9 (And.intro @ln22 (And.intro @ln23 (And.intro @ln26 (And.intro @ln31 (And.intro @ln75 (And.intro @ln9 (And.intro @mg96 (And.intro @mu81 (And.intro @mu96 (And.intro @sl22 (And.intro @sl31 (And.intro @sl9 (And.intro @st23 (And.intro @st25 (And.intro @st3 (And.intro @st34 (And.intro @st4 (And.intro @st40 (And.intro @st67 (And.intro @st73 (And.intro @st75 (And.intro @st81 (And.intro @sto23 (And.intro @sto25 (And.intro @sto3 (And.intro @sto34 (And.intro @sto4 (And.intro @sto40 (And.intro @sto67 (And.intro @sto73 (And.intro @sto75 (And.intro @sto81 (And.intro @str23 (And.intro @str25 (And.intro @str3 (And.intro @str34 (And.intro @str4 (And.intro @str40 (And.intro @str67 (And.intro @str73 (And.intro @str75 (@str81)))))))))))))))))))))))))))))))))))))))))))))))))))))))))))))))))))))))))))))))))))))))))))))))))))))))))))))))))))))))))))))))))))))))))))))))))))))))))))))))))))))))))))))))))))))))))))))))))))))))))))))))))))))))))))))))))))))))))))))))))))))))))))))))))))))))))))))))))))))))))))))))))))))))))))))))))))))))))))))))))))))))))))))))))))))))))))))))))))))))))))))))))))))))))))))))))))))))))))))))))))))))))))))))))))))))))))))))))))))))))))))))))))))))))))))))))))))))))))))))))))))))))))))))))))))))))))))))))))))))))))))))))))))))))))))))))))))))))))))))))))))))))))))))))))))))))))))))))))))))))))))))))))))))))))))))))))))))))))))))))))))))))))))))))))))))))))))))))))))))))))))))))))))))))
end Go.Proofs.Ytjbmdfdgeioecaa.F
