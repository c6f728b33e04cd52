/- The abstract machine: laws by forms, arguments, fuel. -/
import Derived.Test.YtjbmdfdgeioecaaAmC
import Derived.ChangeArms
import Derived.DataReads
import Derived.DataElems
/- The abstract machine, part 25: the laws of values by their forms. -/
namespace Go.Proofs.Ytjbmdfdgeioecaa.Am
set_option linter.unusedVariables false
set_option linter.unusedSimpArgs false
section
variable (p : PV) (es : List PV) (l : Option Nat) (s o k : Nat) (cs : List AV) (ps : List PV) (f : FuncId) (a b : List AV) (i : IntKind) (n : Int) (t : Bool) (w : ByteArray)
theorem cells_pv : (AV.pv p).cells = [.pv p] := rfl
theorem cells_full : (AV.full es).cells = [.full es] := rfl
theorem cells_own : (AV.own l s es).cells = [.own l s es] := rfl
theorem cells_agg : (AV.agg cs).cells = cs := rfl
theorem cells_ptr : (AV.ptr l s o).cells = [.ptr l s o] := rfl
theorem cells_eptr : (AV.eptr ps).cells = [.eptr ps] := rfl
theorem cells_func : (AV.func f a b).cells = [.func f a b] := rfl
theorem junk_pv : (AV.pv p).isJunk = false := rfl
theorem junk_full : (AV.full es).isJunk = false := rfl
theorem junk_own : (AV.own l s es).isJunk = false := rfl
theorem junk_agg : (AV.agg cs).isJunk = false := rfl
theorem junk_ptr : (AV.ptr l s o).isJunk = false := rfl
theorem junk_eptr : (AV.eptr ps).isJunk = false := rfl
theorem junk_func : (AV.func f a b).isJunk = false := rfl
theorem single_pv : (AV.pv p).single = true := rfl
theorem single_full : (AV.full es).single = true := rfl
theorem single_own : (AV.own l s es).single = true := rfl
theorem single_ptr : (AV.ptr l s o).single = true := rfl
theorem single_eptr : (AV.eptr ps).single = true := rfl
theorem single_func : (AV.func f a b).single = true := rfl
theorem plain_pv : (AV.pv p).plain = true := rfl
theorem plain_full : (AV.full es).plain = true := rfl
theorem plain_own : (AV.own l s es).plain = true := rfl
theorem plain_agg : (AV.agg cs).plain = plains cs := by simp only [AV.plain]
theorem plain_tup : (AV.tup cs).plain = plains cs := by simp only [AV.plain]
theorem plain_ptr : (AV.ptr l s o).plain = false := rfl
theorem plain_eptr : (AV.eptr ps).plain = true := rfl
theorem plain_func : (AV.func f a b).plain = (plains a && plains b) := by simp only [AV.plain]
theorem plain_junk : AV.junk.plain = true := rfl
theorem plains_nil : plains [] = true := rfl
theorem plains_cons (x : AV) : plains (x :: cs) = (x.plain && plains cs) := by simp only [plains]
theorem exp_pv : (AV.pv p).exp k = .pv p := rfl
theorem exp_full : (AV.full es).exp k = .pv (.slc es) := rfl
theorem exp_own : (AV.own none s es).exp k = .pv (.slc es) := rfl
theorem exp_ownS (d : Nat) : (AV.own (some d) s es).exp k = if d < k then .own (some d) s es else .pv (.slc es) := rfl
theorem exp_agg : (AV.agg cs).exp k = .agg (exps k cs) := by simp only [AV.exp]
theorem exp_tup : (AV.tup cs).exp k = .tup (exps k cs) := by simp only [AV.exp]
theorem exp_ptr : (AV.ptr none s o).exp k = .junk := rfl
theorem exp_ptrS (d : Nat) : (AV.ptr (some d) s o).exp k = if d < k then .ptr (some d) s o else .junk := rfl
theorem exp_eptr : (AV.eptr ps).exp k = .eptr ps := rfl
theorem exp_func : (AV.func f a b).exp k = .func f (exps k a) (exps k b) := by simp only [AV.exp]
theorem exp_junk : AV.junk.exp k = .junk := rfl
theorem exps_nil : exps k [] = [] := rfl
theorem exps_cons (x : AV) : exps k (x :: cs) = x.exp k :: exps k cs := by simp only [exps]
theorem reloc_pv : (AV.pv p).reloc k = .pv p := rfl
theorem reloc_full : (AV.full es).reloc k = .full es := rfl
theorem reloc_own : (AV.own none s es).reloc k = .own (some k) s es := rfl
theorem reloc_ownS (d : Nat) : (AV.own (some d) s es).reloc k = .own (some d) s es := rfl
theorem reloc_agg : (AV.agg cs).reloc k = .agg (relocs k cs) := by simp only [AV.reloc]
theorem reloc_ptr : (AV.ptr none s o).reloc k = .ptr (some k) s o := rfl
theorem reloc_ptrS (d : Nat) : (AV.ptr (some d) s o).reloc k = .ptr (some d) s o := rfl
theorem reloc_eptr : (AV.eptr ps).reloc k = .eptr ps := rfl
theorem reloc_func : (AV.func f a b).reloc k = .func f (relocs k a) (relocs k b) := by simp only [AV.reloc]
theorem reloc_junk : AV.junk.reloc k = .junk := rfl
theorem relocs_nil : relocs k [] = [] := rfl
theorem relocs_cons (x : AV) : relocs k (x :: cs) = x.reloc k :: relocs k cs := by simp only [relocs]
theorem closed_pv : (AV.pv p).closed k = true := rfl
theorem closed_full : (AV.full es).closed k = true := rfl
theorem closed_ownS (d : Nat) : (AV.own (some d) s es).closed k = decide (d < k) := rfl
theorem closed_ptrS (d : Nat) : (AV.ptr (some d) s o).closed k = decide (d < k) := rfl
theorem closed_agg : (AV.agg cs).closed k = closeds k cs := by simp only [AV.closed]
theorem closeds_nil : closeds k [] = true := rfl
theorem closeds_cons (x : AV) : closeds k (x :: cs) = (x.closed k && closeds k cs) := by simp only [closeds]
theorem slc_pv : (AV.pv (.slc es)).slc? = some es := rfl
theorem slc_full : (AV.full es).slc? = some es := rfl
theorem slc_own : (AV.own l s es).slc? = some es := rfl
theorem leaf_int : (AV.pv (.int i n)).leaf? = some (.int i n) := rfl
theorem leaf_bool : (AV.pv (.bool t)).leaf? = some (.bool t) := rfl
theorem leaf_str : (AV.pv (.str w)).leaf? = some (.str w) := rfl
theorem leaf_slc : (AV.pv (.slc es)).leaf? = some (.slc es) := rfl
theorem leaf_full : (AV.full es).leaf? = some (.slc es) := rfl
theorem leaf_own : (AV.own l s es).leaf? = some (.slc es) := rfl
theorem leaves_nil : leaves? [] = some [] := rfl
theorem leaves_cons (x : AV) : leaves? (x :: cs) = match x.leaf?, leaves? cs with | some p, some ps => some (p :: ps) | _, _ => none := rfl
theorem pcells_int : (PV.int i n).cells = [.int i n] := rfl
theorem pcells_bool : (PV.bool t).cells = [.bool t] := rfl
theorem pcells_str : (PV.str w).cells = [.str w] := rfl
theorem pcells_slc : (PV.slc es).cells = [.slc es] := rfl
theorem pcells_agg : (PV.agg ps).cells = ps := rfl
theorem pack_1 (x : AV) : pack [x] = x := rfl
theorem pack_2 (x y : AV) : pack [x, y] = .tup [x, y] := rfl
theorem pack_0 : pack [] = .tup [] := rfl
theorem extract_tup : aextract (.tup cs) n.toNat = cs[n.toNat]? := rfl
theorem extract_at (j : Nat) : aextract (.tup cs) j = cs[j]? := rfl
theorem afill_nil (place : Nat → Option (Nat × Nat)) : afill place cs [] = some cs := rfl
def fillC (place : Nat → Option (Nat × Nat)) (cs : List AV) (v : AV) (rest : List (Nat × AV)) : Option (Nat × Nat) → Option (List AV)
  | none => none
  | some (off, size) => if v.isJunk = false ∧ v.cells.length = size ∧ off + size ≤ cs.length then afill place (splice cs off v.cells) rest else none
theorem afill_cons (place : Nat → Option (Nat × Nat)) (j : Nat) (v : AV) (rest : List (Nat × AV)) : afill place cs ((j, v) :: rest) = fillC place cs v rest (place j) := by
  simp only [afill, fillC]; cases place j <;> rfl
theorem fillC_some (place : Nat → Option (Nat × Nat)) (v : AV) (rest : List (Nat × AV)) (off size : Nat) : fillC place cs v rest (some (off, size)) = if v.isJunk = false ∧ v.cells.length = size ∧ off + size ≤ cs.length then afill place (splice cs off v.cells) rest else none := rfl
theorem chunks_z (r : Bool) (sz : Nat) : chunks r sz 0 ps = [] := rfl
theorem chunks_s (r : Bool) (sz j : Nat) : chunks r sz (j + 1) ps = (if r then .agg (ps.take sz) else ps.headD default) :: chunks r sz j (ps.drop sz) := rfl
theorem min_int (m : Int) : amin2 (.pv (.int i n)) (.pv (.int .i64 m)) = some (.pv (.int i (if m < n then m else n))) := rfl
theorem max_int (m : Int) : amax2 (.pv (.int i n)) (.pv (.int .i64 m)) = some (.pv (.int i (if m > n then m else n))) := rfl
theorem aint_add (x y : Int) : aint .add i x y = some (.pv (.int i (i.wrap (x + y)))) := rfl
theorem aint_sub (x y : Int) : aint .sub i x y = some (.pv (.int i (i.wrap (x - y)))) := rfl
theorem aint_mul (x y : Int) : aint .mul i x y = some (.pv (.int i (i.wrap (x * y)))) := rfl
theorem aint_quo (x y : Int) : aint .quo i x y = if y = 0 then none else some (.pv (.int i (i.wrap (x.tdiv y)))) := rfl
theorem aint_rem (x y : Int) : aint .rem i x y = if y = 0 then none else some (.pv (.int i (x.tmod y))) := rfl
theorem aint_eql (x y : Int) : aint .eql i x y = some (.pv (.bool (x == y))) := rfl
theorem aint_neq (x y : Int) : aint .neq i x y = some (.pv (.bool (x != y))) := rfl
theorem aint_lss (x y : Int) : aint .lss i x y = some (.pv (.bool (decide (x < y)))) := rfl
theorem aint_leq (x y : Int) : aint .leq i x y = some (.pv (.bool (decide (x ≤ y)))) := rfl
theorem aint_gtr (x y : Int) : aint .gtr i x y = some (.pv (.bool (decide (x > y)))) := rfl
theorem aint_geq (x y : Int) : aint .geq i x y = some (.pv (.bool (decide (x ≥ y)))) := rfl
theorem un_not : aun .not (.pv (.bool t)) = some (.pv (.bool !t)) := rfl
theorem callC_func (P : Program) (call : ACall) (st : St) (args : List AV) : callC P call st (.func f a b) args = callF P call st f (callable P f) (a ++ args ++ b) (plains (a ++ args ++ b)) := rfl
theorem callF_clean (P : Program) (call : ACall) (st : St) (xs : List AV) : callF P call st f true xs true = cleanC st.mems (call f (exps 0 xs) []) := rfl
theorem callF_dirty (P : Program) (call : ACall) (ts : List AV) (m : Mem) (ms : List Mem) (xs : List AV) : callF P call ⟨ts, m :: ms⟩ f true xs false = call f (relocs ms.length xs) (m :: ms) := rfl
theorem cleanC_some (ms : List Mem) (r : AV) : cleanC ms (some (r, [])) = some (r, ms) := rfl
theorem pickC_t (x y : AV) : pickC (.pv (.bool t)) x y = some (if t then x else y) := rfl
theorem guardC_no (want : Bool) (x y : Option St) : guardC (some (.tup [])) want x y = y := rfl
theorem guardC_t (want : Bool) (x y : Option St) : guardC (some (.pv (.bool t))) want x y = if t = want then x else y := rfl
end
/-! rows that may be written -/
section
variable (fl : Bool) (l : Option Nat) (s o v : Nat) (cs : List PV) (x : AV) (r : Option AV)
theorem guardR_ptr : guardR fl (.ptr l s o) r = r := rfl
theorem guardR_eptr : guardR fl (.eptr cs) r = r := rfl
theorem guardR_cptr : guardR fl (.cptr o x) r = r := rfl
theorem guardR_rptr : guardR fl (.rptr l s v o) r = if fl = true then none else r := rfl
theorem nilC_ptr : nilC (.ptr l s o) = some (.ptr l s o) := rfl
theorem nilC_eptr : nilC (.eptr cs) = some (.eptr cs) := rfl
theorem nilC_cptr : nilC (.cptr o x) = some (.cptr o x) := rfl
theorem nilC_rptr : nilC (.rptr l s v o) = some (.rptr l s v o) := rfl
end
section
variable (l : Option Nat) (s v n o k d : Nat) (es : List AV) (x : AV) (p : PV) (ps : List PV)
theorem cells_row : (AV.row l s v n).cells = [.row l s v n] := rfl
theorem cells_prow : (AV.prow es).cells = [.prow es] := rfl
theorem junk_row : (AV.row l s v n).isJunk = false := rfl
theorem junk_rptr : (AV.rptr l s v o).isJunk = false := rfl
theorem junk_prow : (AV.prow es).isJunk = false := rfl
theorem single_row : (AV.row l s v n).single = true := rfl
theorem single_prow : (AV.prow es).single = true := rfl
theorem plain_row : (AV.row l s v n).plain = false := rfl
theorem plain_prow : (AV.prow es).plain = plains es := by simp only [AV.plain]
theorem exp_row : (AV.row none s v n).exp k = .junk := rfl
theorem exp_rowS : (AV.row (some d) s v n).exp k = if d < k then .row (some d) s v n else .junk := rfl
theorem exp_prow : (AV.prow es).exp k = .prow (exps k es) := by simp only [AV.exp]
theorem reloc_row : (AV.row none s v n).reloc k = .row (some k) s v n := rfl
theorem reloc_rowS : (AV.row (some d) s v n).reloc k = .row (some d) s v n := rfl
theorem reloc_rptr : (AV.rptr none s v o).reloc k = .rptr (some k) s v o := rfl
theorem reloc_prow : (AV.prow es).reloc k = .prow (relocs k es) := by simp only [AV.reloc]
theorem closed_rowS : (AV.row (some d) s v n).closed k = decide (d < k) := rfl
theorem leaf_ptr : (AV.ptr l s o).leaf? = none := rfl
theorem leaf_row : (AV.row l s v n).leaf? = none := rfl
theorem slc_row : (AV.row l s v n).slc? = none := rfl
theorem lenC_row : lenC (.row l s v n) = some (.pv (.int .i64 n)) := rfl
theorem lenC_prow : lenC (.prow es) = some (.pv (.int .i64 es.length)) := rfl
theorem lenC_pv : lenC (.pv (.slc ps)) = some (.pv (.int .i64 ps.length)) := rfl
theorem lenC_full : lenC (.full ps) = some (.pv (.int .i64 ps.length)) := rfl
theorem lenC_own : lenC (.own l s ps) = some (.pv (.int .i64 ps.length)) := rfl
theorem lenC_mk : lenC (mkOwn s ps) = some (.pv (.int .i64 ps.length)) := by cases ps <;> rfl
theorem index_row (sz : Nat) (i : Int) : indexC sz (.row l s v n) i = if 0 ≤ i ∧ i < n then some (.rptr l s v (i.toNat * sz)) else none := rfl
theorem index_prow (sz : Nat) (i : Int) : indexC sz (.prow es) i = if 0 ≤ i ∧ sz = 1 then (es[i.toNat]?).map (.cptr i.toNat) else none := rfl
theorem index_mk (sz : Nat) (i : Int) : indexC sz (mkOwn s ps) i = indexC sz (.pv (.slc ps)) i := by cases ps <;> rfl
theorem fullO_some (r : Bool) (sz len : Nat) (cs : List AV) : fullO r sz len cs (some ps) = some (.full (chunks r sz len ps)) := rfl
theorem fullO_none (r : Bool) (sz len : Nat) (cs : List AV) : fullO r sz len cs none = if sz = 1 ∧ cs.length = len then some (.prow cs) else none := rfl
theorem selC_cell (sz : Nat) (cs : List AV) : selC false sz o cs = cs[o]? := rfl
theorem selC_row (sz : Nat) (cs : List AV) : selC true sz o cs = if o + sz ≤ cs.length then some (.agg ((cs.drop o).take sz)) else none := rfl
def rwC : Option (List AV) → Option (Nat × Nat × List PV)
  | some [.mrw v z cs] => some (v, z, cs)
  | _ => none
theorem rwAt_C (ms : List Mem) : rwAt ms d s = rwC (varAt ms d s) := rfl
theorem rwC_hit (z : Nat) : rwC (some [.mrw v z ps]) = some (v, z, ps) := rfl
theorem frz_row (d' s' ver m : Nat) : (AV.row l s v n).frz d' s' ver m p = if l.getD d' = d' ∧ s = s' then (if v = ver ∧ n = m then .pv p else .junk) else .row l s v n := rfl
end
theorem appendC_row1 {sz bytes : Nat} {ts : List AV} {m : Mem} {ms : List Mem} {dst : Tmp} {loc : Option Nat} {s v n : Nat} {p : PV} (hp : p.cells.length = sz) : appendC sz bytes ⟨ts, m :: ms⟩ (some dst) (.row loc s v n) (.full [p]) = (rwAt (m :: ms) (loc.getD ms.length) s).bind fun q =>
    if q.1 = v ∧ q.2.1 = sz ∧ q.2.2.length = n * sz ∧ (n + 1) * bytes ≤ 140737488355328 then some (.row loc s (v + 1) (n + 1), setVar (m :: ms) (loc.getD ms.length) s [.mrw (v + 1) sz (q.2.2 ++ p.cells)]) else none := by
  simp [appendC, AV.slc?, sized, hp, d_cons, cellsOf]
section
variable (d s v n : Nat) (p q : PV) (l : Option Nat) (s' o : Nat) (es ps : List PV) (cs : List AV) (x : AV) (f : FuncId) (a b : List AV) (vs : List (Nat × List AV))
theorem frz_pv : (AV.pv q).frz d s v n p = .pv q := rfl
theorem frz_full : (AV.full es).frz d s v n p = .full es := rfl
theorem frz_own : (AV.own l s' es).frz d s v n p = .own l s' es := rfl
theorem frz_mk : (mkOwn s' es).frz d s v n p = mkOwn s' es := by cases es <;> rfl
theorem frz_agg : (AV.agg cs).frz d s v n p = .agg (frzs d s v n p cs) := by simp only [AV.frz]
theorem frz_tup : (AV.tup cs).frz d s v n p = .tup (frzs d s v n p cs) := by simp only [AV.frz]
theorem frz_ptr : (AV.ptr l s' o).frz d s v n p = if l.getD d = d ∧ s' = s then .junk else .ptr l s' o := rfl
theorem frz_mref : (AV.mref l s').frz d s v n p = if l.getD d = d ∧ s' = s then .junk else .mref l s' := rfl
theorem frz_rptr (v' : Nat) : (AV.rptr l s' v' o).frz d s v n p = if l.getD d = d ∧ s' = s then .junk else .rptr l s' v' o := rfl
theorem frz_eptr : (AV.eptr ps).frz d s v n p = .eptr ps := rfl
theorem frz_func : (AV.func f a b).frz d s v n p = .func f (frzs d s v n p a) (frzs d s v n p b) := by simp only [AV.frz]
theorem frz_prow : (AV.prow cs).frz d s v n p = .prow (frzs d s v n p cs) := by simp only [AV.frz]
theorem frz_cptr : (AV.cptr o x).frz d s v n p = .cptr o (x.frz d s v n p) := by simp only [AV.frz]
theorem frz_mrw (v' z : Nat) : (AV.mrw v' z ps).frz d s v n p = .mrw v' z ps := rfl
theorem frz_junk : AV.junk.frz d s v n p = .junk := rfl
theorem frzs_nil : frzs d s v n p [] = [] := rfl
theorem frzs_cons : frzs d s v n p (x :: cs) = x.frz d s v n p :: frzs d s v n p cs := by simp only [frzs]
theorem frzVars_nil : frzVars d s v n p [] = [] := rfl
theorem frzVars_cons : frzVars d s v n p ((s', cs) :: vs) = if s' = s then frzVars d s v n p vs else (s', frzs d s v n p cs) :: frzVars d s v n p vs := rfl
def glC : Option (List PV) → AV
  | some cs => .eptr cs
  | none => .junk
theorem eval_global (st : St) (g : Nat) : st.eval (.global g) = glC (GV g) := by
  simp only [St.eval, glC]
  rfl
theorem glC_some : glC (some ps) = .eptr ps := rfl
end
/-- A row's cell. -/
theorem makeC_top {sz bytes : Nat} {zp : List PV} (ts : List AV) (vs : List (Nat × List AV)) (tk : List (Nat × Nat × Nat)) (ms : List Mem) (s : Tmp) (n : Nat) : makeC sz bytes zp ⟨ts, ⟨vs, tk⟩ :: ms⟩ (some s) (n : Int) (n : Int) =
    if n * bytes ≤ 140737488355328 then (if (vs.lookup s).isNone = true then some (.row none s 0 n, ⟨setAt s [.mrw 0 sz (zrow n zp)] vs, tk⟩ :: ms) else none) else none := by
  have h1 : ((n : Int) * (bytes : Int) ≤ 140737488355328) = (n * bytes ≤ 140737488355328) := by
    have := Int.natCast_mul n bytes
    apply propext
    constructor <;> intro h <;> omega
  have h2 : (0 : Int) ≤ (n : Int) := by omega
  simp only [makeC, d_cons, varAt_top, setVar_top, Int.toNat_natCast, h1, h2, true_and]
  by_cases hb : n * bytes ≤ 140737488355328
  · by_cases hv : (vs.lookup s).isNone = true
    · simp [hb, hv]
    · simp [hb, hv]
  · simp [hb]
theorem cells_mref (l : Option Nat) (s : Nat) : (AV.mref l s).cells = [.mref l s] := rfl
theorem junk_mref (l : Option Nat) (s : Nat) : (AV.mref l s).isJunk = false := rfl
theorem single_mref (l : Option Nat) (s : Nat) : (AV.mref l s).single = true := rfl
theorem plain_mref (l : Option Nat) (s : Nat) : (AV.mref l s).plain = false := rfl
theorem exp_mref (s k : Nat) : (AV.mref none s).exp k = .junk := rfl
theorem exp_mrefS (d s k : Nat) : (AV.mref (some d) s).exp k = if d < k then .mref (some d) s else .junk := rfl
theorem reloc_mref (s k : Nat) : (AV.mref none s).reloc k = .mref (some k) s := rfl
theorem reloc_mrefS (d s k : Nat) : (AV.mref (some d) s).reloc k = .mref (some d) s := rfl
theorem closed_mrefS (d s k : Nat) : (AV.mref (some d) s).closed k = decide (d < k) := rfl
theorem closed_eptr (ps : List PV) (k : Nat) : (AV.eptr ps).closed k = true := rfl
theorem closed_func (f : FuncId) (a b : List AV) (k : Nat) : (AV.func f a b).closed k = (closeds k a && closeds k b) := by simp only [AV.closed]
theorem from_none (x : AV) : x.from none = x := rfl
theorem from_some (d : Nat) (x : AV) : x.from (some d) = x.reloc d := rfl
section
variable (p : PV) (l : List AV) (es : List PV) (loc : Option Nat) (s o : Nat) (cs : List AV) (ps : List PV) (f : FuncId) (a b : List AV) (x y : AV)
theorem okC_none : okC none = none := rfl
theorem okC_two : okC (some (x :: y :: l)) = some (x :: y :: l) := by cases x <;> rfl
theorem okC_nil : okC (some []) = some [] := rfl
theorem okC_pv : okC (some [.pv p]) = some [.pv p] := rfl
theorem okC_full : okC (some [.full es]) = some [.full es] := rfl
theorem okC_own : okC (some [.own loc s es]) = some [.own loc s es] := rfl
theorem okC_mk : okC (some [mkOwn s es]) = some [mkOwn s es] := by cases es <;> rfl
theorem okC_ptr : okC (some [.ptr loc s o]) = some [.ptr loc s o] := rfl
theorem okC_eptr : okC (some [.eptr ps]) = some [.eptr ps] := rfl
theorem okC_agg : okC (some [.agg cs]) = some [.agg cs] := rfl
theorem okC_func : okC (some [.func f a b]) = some [.func f a b] := rfl
theorem okC_mref : okC (some [.mref loc s]) = some [.mref loc s] := rfl
theorem okC_row (ver n : Nat) : okC (some [.row loc s ver n]) = some [.row loc s ver n] := rfl
theorem okC_junk : okC (some [.junk]) = some [.junk] := rfl
end
theorem mapNew_top (ts : List AV) (vs : List (Nat × List AV)) (tk : List (Nat × Nat × Nat)) (ms : List Mem) (s : Nat) : amapNew ⟨ts, ⟨vs, tk⟩ :: ms⟩ s = if (vs.lookup s).isNone = true then some (.mref none s, ⟨setAt s [.ments [] []] vs, tk⟩ :: ms) else none := by
  simp only [amapNew, d_cons, varAt_top, setVar_top, ne_eq, reduceCtorEq, not_false_eq_true, and_true]
def idxC (loc : Option Nat) (ok : Bool) (z : AV) (xs : List AV) : Option (Option Nat) → Option AV
  | some (some i) => (xs[i]?).map fun x => if ok then .tup [x.from loc, .pv (.bool true)] else x.from loc
  | some none => some (if ok then .tup [z, .pv (.bool false)] else z)
  | none => none
def mapGetC (loc : Option Nat) (ok : Bool) (kk : IntKind) (n : Int) (z : AV) : Option (List PV × List AV) → Option AV
  | some (ks, xs) => idxC loc ok z xs (keyIdx kk n ks 0)
  | none => none
theorem mapGetC_some (loc : Option Nat) (ok : Bool) (kk : IntKind) (n : Int) (z : AV) (ks : List PV) (xs : List AV) : mapGetC loc ok kk n z (some (ks, xs)) = idxC loc ok z xs (keyIdx kk n ks 0) := rfl
theorem idxC_hit (loc : Option Nat) (z : AV) (xs : List AV) (i : Nat) : idxC loc false z xs (some (some i)) = (xs[i]?).map fun x => x.from loc := rfl
theorem idxC_hit2 (loc : Option Nat) (z : AV) (xs : List AV) (i : Nat) : idxC loc true z xs (some (some i)) = (xs[i]?).map fun x => .tup [x.from loc, .pv (.bool true)] := rfl
theorem idxC_miss (loc : Option Nat) (z : AV) (xs : List AV) : idxC loc false z xs (some none) = some z := rfl
theorem idxC_miss2 (loc : Option Nat) (z : AV) (xs : List AV) : idxC loc true z xs (some none) = some (.tup [z, .pv (.bool false)]) := rfl
theorem amapGet_C {P : Program} {t et : TypeId} {z : AV} (h : intKeys P t = some et) (hz : ((P.info? et).bind (·.zero)).map ofVal = some z) (st : St) (loc : Option Nat) (s : Nat) (kk : IntKind) (n : Int) (ok : Bool) :
    amapGet P st t (.mref loc s) (.pv (.int kk n)) ok = mapGetC loc ok kk n z (entsAt st.mems (loc.getD st.d) s) := by
  simp only [Option.map_eq_some_iff] at hz
  obtain ⟨z, hz, rfl⟩ := hz
  unfold amapGet amapGetI mapGetC
  simp only [h, hz]
  cases entsAt st.mems (loc.getD st.d) s with
  | none => rfl
  | some q =>
    obtain ⟨ks, xs⟩ := q
    simp only
    cases keyIdx kk n ks 0 with
    | none => rfl
    | some r => cases r <;> rfl
def setC (ms : List Mem) (d s : Nat) (ks : List PV) (xs : List AV) (kk : IntKind) (n : Int) (x : AV) : Option (Option Nat) → Option (AV × List Mem)
  | some (some i) => some (.junk, setVar ms d s [.ments ks (xs.set i x)])
  | some none => some (.junk, setVar ms d s [.ments (ks ++ [.int kk n]) (xs ++ [x])])
  | none => none
def mapSetC (ms : List Mem) (d s : Nat) (kk : IntKind) (n : Int) (x : AV) : Option (List PV × List AV) → Option (AV × List Mem)
  | some (ks, xs) => setC ms d s ks xs kk n x (keyIdx kk n ks 0)
  | none => none
theorem mapSetC_some (ms : List Mem) (d s : Nat) (kk : IntKind) (n : Int) (x : AV) (ks : List PV) (xs : List AV) : mapSetC ms d s kk n x (some (ks, xs)) = setC ms d s ks xs kk n x (keyIdx kk n ks 0) := rfl
theorem setC_hit (ms : List Mem) (d s : Nat) (ks : List PV) (xs : List AV) (kk : IntKind) (n : Int) (x : AV) (i : Nat) : setC ms d s ks xs kk n x (some (some i)) = some (.junk, setVar ms d s [.ments ks (xs.set i x)]) := rfl
theorem setC_miss (ms : List Mem) (d s : Nat) (ks : List PV) (xs : List AV) (kk : IntKind) (n : Int) (x : AV) : setC ms d s ks xs kk n x (some none) = some (.junk, setVar ms d s [.ments (ks ++ [.int kk n]) (xs ++ [x])]) := rfl
theorem amapSet_C {P : Program} {t et : TypeId} (h : intKeys P t = some et) (st : St) (loc : Option Nat) (s : Nat) (kk : IntKind) (n : Int) (x : AV) :
    amapSet P st t (.mref loc s) (.pv (.int kk n)) x = if locOK st x loc = true then mapSetC st.mems (loc.getD st.d) s kk n x (entsAt st.mems (loc.getD st.d) s) else none := by
  unfold amapSet amapSetI mapSetC
  simp only [h]
  split
  · cases entsAt st.mems (loc.getD st.d) s with
    | none => rfl
    | some q =>
      obtain ⟨ks, xs⟩ := q
      simp only
      cases keyIdx kk n ks 0 with
      | none => rfl
      | some r => cases r <;> rfl
  · rfl
theorem locOK_none (st : St) (x : AV) : locOK st x none = true := rfl
theorem locOK_some (st : St) (x : AV) (d : Nat) : locOK st x (some d) = (x.closed (d + 1) && decide (d ≤ st.d)) := rfl
def entsC : Option (List AV) → Option (List PV × List AV)
  | some [.ments ks xs] => some (ks, xs)
  | _ => none
theorem entsAt_C (ms : List Mem) (d s : Nat) : entsAt ms d s = entsC (varAt ms d s) := by
  unfold entsAt entsC
  cases varAt ms d s with
  | none => rfl
  | some l =>
    cases l with
    | nil => rfl
    | cons x l => cases l <;> cases x <;> rfl
theorem entsC_hit (ks : List PV) (xs : List AV) : entsC (some [.ments ks xs]) = some (ks, xs) := rfl
theorem keyIdx_nil (k : IntKind) (n : Int) (i : Nat) : keyIdx k n [] i = some none := rfl
theorem keyIdx_cons (k : IntKind) (n m : Int) (ks : List PV) (i : Nat) : keyIdx k n (.int k m :: ks) i = if n = m then some (some i) else keyIdx k n ks (i + 1) := by simp [keyIdx]
/-- What is done ahead of a region. -/
def prepC (k : Bool → St → Option St) (st : St) : Option (List Prep) → Out
  | none => normalC (k false st)
  | some l => normalC ((St.preps l st).bind (k (flagOf l)))
theorem prepC_none (k : Bool → St → Option St) (st : St) : prepC k st none = normalC (k false st) := rfl
theorem prepC_some (k : Bool → St → Option St) (st : St) (l : List Prep) : prepC k st (some l) = normalC ((St.preps l st).bind (k (flagOf l))) := rfl
theorem flagOf_nil : flagOf [] = false := rfl
theorem flagOf_no (l : List Prep) : flagOf (.noRows :: l) = true := rfl
theorem flagOf_seed (t s z : Nat) (j : Option Nat) (l : List Prep) : flagOf (.seed t j s z :: l) = flagOf l := rfl
theorem flagOf_frz (s : Nat) (r : Bool) (l : List Prep) : flagOf (.freeze s r :: l) = flagOf l := rfl
theorem flagOf_mark (s z : Nat) (l : List Prep) : flagOf (.mark s z :: l) = flagOf l := rfl
theorem prep_mark (ts : List AV) (vs : List (Nat × List AV)) (tk : List (Nat × Nat × Nat)) (ms : List Mem) (s z : Nat) : St.prep1 ⟨ts, ⟨vs, tk⟩ :: ms⟩ (.mark s z) = if (vs.lookup s).isNone = true then some ⟨ts, ⟨setAt s [.mrw 0 z []] vs, tk⟩ :: ms⟩ else none := by
  simp only [St.prep1, d_cons, varAt_top, setVar_top]
  split
  · rename_i h; rw [if_pos h.1]
  · rename_i h; rw [if_neg (fun q => h ⟨q, by simp⟩)]
theorem prep_noRows (st : St) : st.prep1 .noRows = some st := rfl
theorem preps_nil (st : St) (k : St → Option St) : (St.preps [] st).bind k = k st := rfl
theorem preps_cons (st : St) (p : Prep) (l : List Prep) (k : St → Option St) : (St.preps (p :: l) st).bind k = (st.prep1 p).bind fun st => (St.preps l st).bind k := by
  simp only [St.preps, Option.bind_assoc]
def seedC (st : St) (t s z : Nat) : Option AV → Option St
  | some (.full []) => st.seed t (.row none s 0 0) s z
  | _ => none
theorem prep_seed (st : St) (t s z : Nat) : st.prep1 (.seed t none s z) = seedC st t s z (st.tmps[t]?) := by
  simp only [St.prep1, seedC]
  rfl
theorem seedC_full (st : St) (t s z : Nat) : seedC st t s z (some (.full [])) = st.seed t (.row none s 0 0) s z := rfl
def seedCc (st : St) (t s z j : Nat) (cs : List AV) : Option AV → Option St
  | some (.full []) => st.seed t (.agg (cs.set j (.row none s 0 0))) s z
  | _ => none
def seedCj (st : St) (t s z j : Nat) : Option AV → Option St
  | some (.agg cs) => seedCc st t s z j cs (cs[j]?)
  | _ => none
theorem prep_seedj (st : St) (t s z j : Nat) : st.prep1 (.seed t (some j) s z) = seedCj st t s z j (st.tmps[t]?) := by
  simp only [St.prep1]
  cases st.tmps[t]? with
  | none => rfl
  | some x =>
    cases x with
    | agg cs => simp only [seedCj, seedCc]; rfl
    | _ => rfl
theorem seedCj_agg (st : St) (t s z j : Nat) (cs : List AV) : seedCj st t s z j (some (.agg cs)) = seedCc st t s z j cs (cs[j]?) := rfl
theorem seedCc_full (st : St) (t s z j : Nat) (cs : List AV) : seedCc st t s z j cs (some (.full [])) = st.seed t (.agg (cs.set j (.row none s 0 0))) s z := rfl
theorem seed_top (ts : List AV) (vs : List (Nat × List AV)) (tk : List (Nat × Nat × Nat)) (ms : List Mem) (t s z : Nat) (x : AV) : St.seed ⟨ts, ⟨vs, tk⟩ :: ms⟩ t x s z = if (vs.lookup s).isNone = true then some ⟨ts.set t x, ⟨setAt s [.mrw 0 z []] vs, tk⟩ :: ms⟩ else none := by
  unfold St.seed
  simp only [d_cons, varAt_top, setVar_top]
  split
  · rename_i h; rw [if_pos h.1]
  · rename_i h; rw [if_neg (fun q => h ⟨q, by simp⟩)]
def frzC (ts : List AV) (m : Mem) (ms : List Mem) (s : Nat) (row : Bool) : Option (List AV) → Option St
  | some [.mrw ver z cs] => frzGo ts m ms s row ver z (cs.length / z) cs
  | _ => none
theorem prep_freeze (ts : List AV) (m : Mem) (ms : List Mem) (s : Nat) (row : Bool) : St.prep1 ⟨ts, m :: ms⟩ (.freeze s row) = frzC ts m ms s row (m.vars.lookup s) := by
  simp only [St.prep1, frzC]
  rfl
theorem frzC_hit (ts : List AV) (m : Mem) (ms : List Mem) (s : Nat) (row : Bool) (ver z : Nat) (cs : List PV) : frzC ts m ms s row (some [.mrw ver z cs]) = frzGo ts m ms s row ver z (cs.length / z) cs := rfl
/-- A row that is n elements long is let go as these. -/
theorem frzGo_n {ts : List AV} {m : Mem} {ms : List Mem} {s : Nat} {row : Bool} {ver z n : Nat} {cs : List PV} {es : List PV} (hl : cs.length = n * z) (hz : (decide (0 < z) && (row || decide (z = 1))) = true) (he : chunks row z n cs = es) :
    frzGo ts m ms s row ver z (cs.length / z) cs = some (frzTop ts m ms s ver n (.slc es)) := by
  simp only [Bool.and_eq_true, Bool.or_eq_true, decide_eq_true_eq] at hz
  have hd : cs.length / z = n := by rw [hl]; exact Nat.mul_div_cancel _ hz.1
  unfold frzGo
  rw [hd, if_pos ⟨hz.1, hl, hz.2⟩, he]
def condX (v : AV) (f g : St → Out) (st : St) : Out :=
  match v with
  | .pv (.bool b) => if b then f st else g st
  | _ => none
section
variable (P : Program) (call : ACall) (Z : List (Nat × List Prep)) (L : Nat → St → Out) (a b : Code) (st : St)
theorem cx_skip : acodeX P call Z L .skip st = some (.normal, st) := rfl
theorem cx_label (l : Nat) : acodeX P call Z L (.label l) st = some (.normal, st) := rfl
theorem cx_region (id : Nat) (ops : Array Oper) : acodeX P call [] L (.region id ops false) st = normalC (asteps P call false ops ops.toList st) := rfl
theorem cx_regionZ (z : Nat × List Prep) (id : Nat) (ops : Array Oper) : acodeX P call (z :: Z) L (.region id ops false) st = prepC (fun b => asteps P call b ops ops.toList) st ((z :: Z).lookup id) := by
  simp only [acodeX]
  cases (z :: Z).lookup id <;> rfl
theorem cx_drawnZ (z : Nat × List Prep) (id : Nat) (ops : Array Oper) : acodeX P call (z :: Z) L (.region id ops true) st = prepC (fun b => asteps P (ACall.clean call) b ops ops.toList) st ((z :: Z).lookup id) := by
  simp only [acodeX]
  cases (z :: Z).lookup id <;> rfl
theorem cx_drawn (id : Nat) (ops : Array Oper) : acodeX P call [] L (.region id ops true) st = normalC (asteps P (ACall.clean call) false ops ops.toList st) := rfl
theorem cx_seq : acodeX P call Z L (.seq a b) st = thenC (acodeX P call Z L a st) (acodeX P call Z L b) := rfl
theorem cx_cond (c : Operand) : acodeX P call Z L (.cond c a b) st = condX (st.eval c) (acodeX P call Z L a) (acodeX P call Z L b) st := by
  simp only [acodeX, condX]
  cases st.eval c with
  | pv p => cases p <;> rfl
  | _ => rfl
theorem cx_block (id : Nat) : acodeX P call Z L (.block id a) st = blockC id (acodeX P call Z L a st) := rfl
theorem cx_loop : acodeX P call Z L (.loop a) st = L (codeKey a) st := rfl
theorem cx_exit (id : Nat) : acodeX P call Z L (.exit id) st = some (.exit id, st) := rfl
theorem cx_ret : acodeX P call Z L .ret st = some (.ret, st) := rfl
theorem cx_scope : acodeX P call Z L (.scope a) st = acodeX P call Z L a st := rfl
variable (f g : St → Out)
theorem condX_true : condX (.pv (.bool true)) f g st = f st := rfl
theorem condX_false : condX (.pv (.bool false)) f g st = g st := rfl
theorem condX_bool (t : Bool) : condX (.pv (.bool t)) f g st = if t = true then f st else g st := rfl
theorem clean_call (fid : FuncId) (args : List AV) : ACall.clean call fid args [] = call fid args [] := rfl
theorem clean_still (fid : FuncId) (args : List AV) (m : Mem) (ms : List Mem) : ACall.clean call fid args (m :: ms) = stillC (m :: ms) (call fid args (m :: ms)) := rfl
theorem still_some (ms : List Mem) (v : AV) : stillC ms (some (v, ms)) = some (v, ms) := stillC_some ms v
end
theorem un_neg (k : IntKind) (n : Int) : aun .neg (.pv (.int k n)) = some (.pv (.int k (k.wrap (0 - n)))) := rfl
theorem str_add (x y : ByteArray) : astr .add x y = if x.size + y.size ≤ 9223372036854775807 then some (.pv (.str (x ++ y))) else none := rfl
theorem str_eql (x y : ByteArray) : astr .eql x y = some (.pv (.bool (x.toList == y.toList))) := rfl
theorem str_neq (x y : ByteArray) : astr .neq x y = some (.pv (.bool (!(x.toList == y.toList)))) := rfl
theorem str_lss (x y : ByteArray) : astr .lss x y = some (.pv (.bool (Op.bytesLess x.toList y.toList))) := rfl
theorem str_leq (x y : ByteArray) : astr .leq x y = some (.pv (.bool (Op.bytesLess x.toList y.toList || x.toList == y.toList))) := rfl
theorem bound_none (d l : Nat) : abound none d l = some d := rfl
theorem bound_some (k : IntKind) (n : Int) (d l : Nat) : abound (some (.pv (.int k n))) d l = if 0 ≤ n ∧ n ≤ l then some n.toNat else none := rfl
theorem slc_C (sz : Nat) (x : AV) (lo hi : Option AV) (es : List PV) (h : x.slc? = some es) : sliceC sz x lo hi = if sized sz es then (abound hi es.length es.length).bind fun h => (abound lo 0 h).map fun l => .pv (.slc ((es.take h).drop l)) else none := by simp [sliceC, h]
theorem varAt_cons (m : Mem) (ms : List Mem) (d s : Nat) : varAt (m :: ms) d s = if d = ms.length then m.vars.lookup s else varAt ms d s := by
  by_cases h : d = ms.length <;> simp [varAt, memAt, h]
theorem setVar_cons (vs : List (Nat × List AV)) (tk : List (Nat × Nat × Nat)) (ms : List Mem) (d s : Nat) (cs : List AV) : setVar (⟨vs, tk⟩ :: ms) d s cs = if d = ms.length then ⟨setAt s cs vs, tk⟩ :: ms else ⟨vs, tk⟩ :: setVar ms d s cs := by
  by_cases h : d = ms.length <;> simp [setVar, modMem, h]
theorem tokAt_cons (m : Mem) (ms : List Mem) (d s : Nat) : tokAt (m :: ms) d s = if d = ms.length then (m.toks.lookup s).filter fun t => t.1 != 0 else tokAt ms d s := by
  by_cases h : d = ms.length <;> simp [tokAt, memAt, h]
theorem setTok_cons (vs : List (Nat × List AV)) (tk : List (Nat × Nat × Nat)) (ms : List Mem) (d s : Nat) (t : Nat × Nat) : setTok (⟨vs, tk⟩ :: ms) d s t = if d = ms.length then ⟨vs, setAt s t tk⟩ :: ms else ⟨vs, tk⟩ :: setTok ms d s t := by
  by_cases h : d = ms.length <;> simp [setTok, modMem, h]
end Go.Proofs.Ytjbmdfdgeioecaa.Am
/- The abstract machine, part 26: a law's arguments as the machine's values; from a run to the law's row. -/
namespace Go.Proofs.Ytjbmdfdgeioecaa.Am
open Go.RowKit
set_option linter.unusedVariables false
set_option linter.unusedSimpArgs false
variable {P : Program}

def protAll (w : World) : Prot := fun b o => w.cell? ⟨b, o, none⟩

/-- A type's cells read as pure values: of every value of α, its form f; what is known of it, G. -/
structure Rp {α : Type} (P : Program) (n : Nat) (t : TypeId) (f : α → PV) (k : Nat) (G : α → Prop) : Prop where
  sz : P.cellsOf t = k
  len : ∀ a, (f a).cells.length = k
  rd : ∀ (H : Type) (enc : TypeId × Value → H) (w : World) (base : Nat) (spare : Nat → Bool) (held : Bool) (m : Nat) (cs : List Value) (x : DataW H × List MemPlace), m ≤ n → DataW.trod enc P w base spare held m t cs = some x →
    ∃ a, PRs (protAll w) (f a).cells cs ∧ G a
structure RpF {α : Type} (P : Program) (n : Nat) (fs : List Field) (off : Nat) (f : α → List PV) (k : Nat) (G : α → Prop) : Prop where
  len : ∀ a, (f a).length = k
  rd : ∀ (H : Type) (enc : TypeId × Value → H) (w : World) (base : Nat) (spare : Nat → Bool) (held : Bool) (m : Nat) (cs : List Value), m ≤ n → cs.length = off + k →
    (∀ g ∈ fs, ∃ z, DataW.trod enc P w base spare held m g.type ((cs.drop g.offset).take (P.cellsOf g.type)) = some z) → ∃ a, PRs (protAll w) (f a) (cs.drop off) ∧ G a

variable {n : Nat} {t e : TypeId}
theorem Rp.int {k : IntKind} (h : P.underlying t = some (.int k)) (hc : P.cellsOf t = 1) : Rp P n t (PV.int k) 1 (fun x => (Lit.int k x).wf = true) :=
  ⟨hc, fun _ => rfl, fun H enc w base spare held m cs x _ hx => by
    obtain ⟨y, rfl, _, hw⟩ := DataW.trod_int h hx
    exact ⟨y, .cons (.int k y) .nil, hw⟩⟩
theorem Rp.bool (h : P.underlying t = some .bool) (hc : P.cellsOf t = 1) : Rp P n t PV.bool 1 (fun _ => True) :=
  ⟨hc, fun _ => rfl, fun H enc w base spare held m cs x _ hx => by
    obtain ⟨y, rfl, _⟩ := DataW.trod_bool h hx
    exact ⟨y, .cons (.bool y) .nil, trivial⟩⟩
theorem Rp.string (h : P.underlying t = some .string) (hc : P.cellsOf t = 1) : Rp P n t PV.str 1 (fun s => s.size ≤ maxLen) :=
  ⟨hc, fun _ => rfl, fun H enc w base spare held m cs x _ hx => by
    obtain ⟨y, rfl, _, hw⟩ := DataW.trod_string h hx
    exact ⟨y, .cons (.str y) .nil, hw⟩⟩
theorem pick_list {α : Type} {Q : Nat → α → Prop} : ∀ n : Nat, (∀ i, i < n → ∃ y, Q i y) → ∃ ys : List α, ys.length = n ∧ ∀ i y, ys[i]? = some y → Q i y
  | 0, _ => ⟨[], rfl, fun i y h => by simp at h⟩
  | n + 1, h => by
    obtain ⟨ys, hl, hq⟩ := pick_list n (fun i hi => h i (by omega))
    obtain ⟨y, hy⟩ := h n (by omega)
    refine ⟨ys ++ [y], by simp [hl], fun i z hz => ?_⟩
    rcases Nat.lt_or_ge i ys.length with h1 | h1
    · rw [List.getElem?_append_left h1] at hz
      exact hq i z hz
    · rw [List.getElem?_append_right h1] at hz
      have : i - ys.length = 0 := by
        have := (List.getElem?_eq_some_iff.1 hz).1
        simp at this
        omega
      rw [this] at hz
      obtain rfl : y = z := by simpa using hz
      rwa [show i = n by omega]
theorem Rp.slice {α : Type} {f : α → PV} {k : Nat} {G : α → Prop} (h : P.underlying t = some (.slice e)) (hc : P.cellsOf t = 1) (hk : 0 < k) (r : Rp P n e f k G) : Rp P (n + 1) t (fun l : List α => PV.slc (l.map f)) 1 (fun l => l.length ≤ maxLen ∧ ∀ x ∈ l, G x) :=
  ⟨hc, fun _ => rfl, fun H enc w base spare held m cs x hm hx => by
    rcases DataW.trod_slice h hx with ⟨rfl, _⟩ | ⟨a, len, cap, elems, rest, q, hq, rfl, _, hb, hl, hcm, hlen, hel, _, _⟩
    · exact ⟨[], .cons (.nil none 0) .nil, Nat.zero_le _, fun x hx => by cases hx⟩
    · obtain ⟨ys, hyl, hy⟩ := pick_list (Q := fun i y => ∃ c : List Value, c.length = k ∧ PRs (protAll w) (f y).cells c ∧ (∀ j u, c[j]? = some u → w.cell? (a.add (i * k + j)) = some u) ∧ G y) len (fun i hi => by
        have h1 := hel i hi
        rw [List.getElem?_eq_getElem (by omega)] at h1
        obtain ⟨c, hcc, hct⟩ := Option.bind_eq_some_iff.1 h1
        obtain ⟨_, hcl, hce⟩ := World.cells?_some hcc
        obtain ⟨y, hK, hG⟩ := r.rd H enc w base spare held q c _ (by omega) hct
        rw [r.sz] at hcl hce
        refine ⟨y, c, hcl, hK, fun j u hj => ?_, hG⟩
        have hj2 := (List.getElem?_eq_some_iff.1 hj).1
        have := hce j (by omega)
        rw [hj, ← r.sz] at this
        rw [← r.sz, ← this, Addr.add_add])
      refine ⟨ys, .cons ?_ .nil, by omega, fun y hy2 => ?_⟩
      · cases ys with
        | nil =>
          have : len = 0 := by simpa using hyl.symm
          subst this
          exact .nil _ _
        | cons y0 ys0 =>
          have hsp : a.spot = none := by
            obtain ⟨c, h1, h2, h3, _⟩ := hy 0 y0 (by simp)
            have hc0 : ∃ u, c[0]? = some u := ⟨c[0], by simp [h1, hk]⟩
            obtain ⟨u, hu⟩ := hc0
            have := h3 0 u hu
            simp only [Nat.zero_mul, Nat.add_zero, Addr.add, if_true, World.cell?] at this
            split at this
            · split at this
              · cases this
              · rename_i hq; simpa using hq
            · cases this
          have hadd : ∀ x, a.add x = ⟨a.block, a.off + x, none⟩ := fun x => by
            unfold Addr.add
            split
            · rename_i h0; subst h0; cases a; simp_all
            · simp
          have ha : a = ⟨a.block, a.off, none⟩ := by cases a; simp_all
          rw [ha, ← hyl, ← List.length_map (f := f)]
          generalize hys : y0 :: ys0 = ys at *
          have key : ∀ (i : Nat) (p : PV) (j : Nat) (c : PV), (ys.map f)[i]? = some p → p.cells[j]? = some c → w.cell? ⟨a.block, a.off + i * k + j, none⟩ = some ((w.cell? ⟨a.block, a.off + i * k + j, none⟩).getD undef) ∧ PR (protAll w) c ((w.cell? ⟨a.block, a.off + i * k + j, none⟩).getD undef) := by
            intro i p j c hi hj
            rw [List.getElem?_map, Option.map_eq_some_iff] at hi
            obtain ⟨y, hi, rfl⟩ := hi
            obtain ⟨c', h1, h2, h3, _⟩ := hy i y hi
            obtain ⟨u, hu, hr⟩ := h2.get hj
            have := h3 j u hu
            rw [hadd, ← Nat.add_assoc] at this
            rw [this]
            exact ⟨rfl, hr⟩
          refine PR.slc a.block a.off cap k (ys.map f) (fun i j => (w.cell? ⟨a.block, a.off + i * k + j, none⟩).getD undef) (by simp; omega) (fun i p hi => ?_) (fun i p j c hi hj => (key i p j c hi hj).1) (fun i p j c hi hj => (key i p j c hi hj).2)
          rw [List.getElem?_map, Option.map_eq_some_iff] at hi
          obtain ⟨y, _, rfl⟩ := hi
          exact r.len y
      · obtain ⟨i, hi⟩ := List.getElem?_of_mem hy2
        obtain ⟨_, _, _, _, h4⟩ := hy i y hi
        exact h4⟩
theorem RpF.one {α : Type} {f : α → PV} {k : Nat} {G : α → Prop} {g : Field} {off : Nat} (ho : g.offset = off) (r : Rp P n g.type f k G) : RpF P n [g] off (fun a => (f a).cells) k G :=
  ⟨r.len, fun H enc w base spare held m cs hm hl hf => by
    obtain ⟨z, hz⟩ := hf g (by simp)
    rw [ho, r.sz, List.take_of_length_le (by rw [List.length_drop]; omega)] at hz
    exact r.rd H enc w base spare held m _ _ hm hz⟩
theorem RpF.cons {α β : Type} {f : α → PV} {g : β → List PV} {k l : Nat} {Ga : α → Prop} {Gb : β → Prop} {fd : Field} {fs : List Field} {off : Nat} (off' : Nat) (ho : fd.offset = off) (ho' : off + k = off') (r : Rp P n fd.type f k Ga) (rs : RpF P n fs off' g l Gb) :
    RpF P n (fd :: fs) off (fun p : α × β => (f p.1).cells ++ g p.2) (k + l) (fun p => Ga p.1 ∧ Gb p.2) :=
  ⟨fun a => by rw [List.length_append, r.len, rs.len], fun H enc w base spare held m cs hm hl hf => by
    obtain ⟨z, hz⟩ := hf fd (by simp)
    rw [ho, r.sz] at hz
    obtain ⟨x, hx, hgx⟩ := r.rd H enc w base spare held m _ _ hm hz
    obtain ⟨y, hy, hgy⟩ := rs.rd H enc w base spare held m cs hm (by omega) (fun g hg => hf g (by simp [hg]))
    refine ⟨(x, y), ?_, hgx, hgy⟩
    have := hx.append hy
    rwa [← ho', ← List.drop_drop, List.take_append_drop] at this⟩
theorem Rp.struct {α : Type} {f : α → List PV} {k : Nat} {G : α → Prop} {fs : Array Field} (h : P.underlying t = some (.struct fs)) (hc : P.cellsOf t = k) (r : RpF P n fs.toList 0 f k G) : Rp P (n + 1) t (fun a => PV.agg (f a)) k G :=
  ⟨hc, r.len, fun H enc w base spare held m cs x hm hx => by
    obtain ⟨xs, q, hq, _, hl, hlen, hf⟩ := DataW.trod_struct h hx
    have := r.rd H enc w base spare held q cs (by omega) (by omega) (fun f hfm => by
      obtain ⟨i, hi⟩ := List.getElem?_of_mem hfm
      have h1 := hf i f (by simpa using hi)
      have hil : i < xs.length := by
        have := (List.getElem?_eq_some_iff.1 hi).1
        simp at this
        omega
      rw [List.getElem?_eq_getElem hil] at h1
      exact ⟨_, h1⟩)
    rw [List.drop_zero] at this
    exact this⟩
/-- Another type with the same forms. -/
theorem Rp.iso {α β : Type} {f : α → PV} {f' : β → PV} {k : Nat} {G : α → Prop} {G' : β → Prop} (g : α → β) (hfg : ∀ a, f' (g a) = f a) (hG : ∀ a, G a → G' (g a)) (hl : ∀ b, (f' b).cells.length = k) (r : Rp P n t f k G) : Rp P n t f' k G' :=
  ⟨r.sz, hl, fun H enc w base spare held m cs x hm hx => by
    obtain ⟨a, ha, hg⟩ := r.rd H enc w base spare held m cs x hm hx
    exact ⟨g a, by rw [hfg]; exact ha, hG a hg⟩⟩
/-- What holds at more steps holds at fewer. -/
theorem Rp.down {α : Type} {f : α → PV} {k : Nat} {G : α → Prop} {m : Nat} (hm : m ≤ n) (r : Rp P n t f k G) : Rp P m t f k G :=
  ⟨r.sz, r.len, fun H enc w base spare held q cs x hq hx => r.rd H enc w base spare held q cs x (by omega) hx⟩
/-- Nothing reads at no steps. -/
theorem Rp.zero {α : Type} {f : α → PV} {k : Nat} {G : α → Prop} (hc : P.cellsOf t = k) (hl : ∀ a, (f a).cells.length = k) : Rp P 0 t f k G :=
  ⟨hc, hl, fun H enc w base spare held m cs x hm hx => by
    have : m = 0 := by omega
    subst this
    simp [DataW.trod] at hx⟩

/-- An argument of one cell. -/
theorem Rp.arg1 {α : Type} {f : α → PV} {G : α → Prop} (r : ∀ n, Rp P n t f 1 G) (hf : ∀ a, (f a).cells = [f a]) {H : Type} {enc : TypeId × Value → H} {w : World} {base : Nat} {spare : Nat → Bool} {held : Bool} {v : Value} {x : DataW H} {ps : List MemPlace}
    (h : DataW.Trod enc P w base spare held t v x ps) (hv : v.cells.toList = [v]) : ∃ a, PR (protAll w) (f a) v ∧ G a := by
  obtain ⟨m, hm⟩ := h
  obtain ⟨a, h1, h2⟩ := (r m).rd H enc w base spare held m _ _ (Nat.le_refl _) hm
  rw [hv, hf] at h1
  cases h1 with
  | cons h1 _ => exact ⟨a, h1, h2⟩
/-- An argument of several cells. -/
theorem Rp.args {α : Type} {f : α → PV} {k : Nat} {G : α → Prop} (r : ∀ n, Rp P n t f k G) {H : Type} {enc : TypeId × Value → H} {w : World} {base : Nat} {spare : Nat → Bool} {held : Bool} {xs : Array Value} {x : DataW H} {ps : List MemPlace}
    (h : DataW.Trod enc P w base spare held t (.agg xs) x ps) : ∃ a, PRs (protAll w) (f a).cells xs.toList ∧ G a := by
  obtain ⟨m, hm⟩ := h
  exact (r m).rd H enc w base spare held m _ _ (Nat.le_refl _) hm
theorem okWide_struct {fs : Array Field} (ht : P.underlying t = some (.struct fs)) {w : World} {r : Reach} {base : Nat} {v : Value} (h : Value.okWide P w r base t v) : ∃ xs : Array Value, v = .agg xs := by
  simp only [Value.okWide, ht] at h
  obtain ⟨cs, h1, _⟩ := h
  exact ⟨cs, h1⟩

def ghAll (w : World) : Gh := { M := protAll w, φ := fun _ _ => none, τ := fun _ _ => none, ρ := fun _ _ => none }
theorem ARs.cons1 {w : World} {p : PV} {v : Value} {xs : List AV} {vs : List Value} (h : PR (protAll w) p v) (hs : ∀ d, ARs (ghAll w) d xs vs) : ∀ d, ARs (ghAll w) d (.pv p :: xs) (v :: vs) := fun d => by
  simp only [ARs]; exact ⟨v, vs, rfl, by simp only [AR, ghAll]; exact h, hs d⟩
theorem ARs.consN {w : World} {ps : List PV} {us : Array Value} {xs : List AV} {vs : List Value} (h : PRs (protAll w) ps us.toList) (hs : ∀ d, ARs (ghAll w) d xs vs) : ∀ d, ARs (ghAll w) d (.agg (ps.map .pv) :: xs) (.agg us :: vs) := fun d => by
  simp only [ARs]; exact ⟨_, vs, rfl, by simp only [AR]; exact ⟨us, rfl, PRs.ars h⟩, hs d⟩
theorem ARs.nil0 {w : World} : ∀ d, ARs (ghAll w) d [] [] := fun d => by simp only [ARs]

/-- From a run to the law. -/
theorem law_calls {call : ACall} (hc : CallOK P call) {f : FuncId} {args : List AV} {b : Bool} (h : call f args [] = some (.pv (.bool b), [])) {w : World} {vals : List Value} (ha : ∀ d, ARs (ghAll w) d args vals) (hcl : closeds 0 args = true) (hgl : GlOK (ghAll w)) :
    Calls P f vals.toArray w fun e w' => e = .returned (.bool b) ∧ Below w.heap.size w w' := by
  have hr : RM (ghAll w) (fun _ => none) [] w := by
    refine ⟨fun b o v h => h, fun d s cs hv hnr => ?_, fun d s n z ht => ?_, fun d s b hb => ?_, fun d s t ht => ?_, fun b x hb => ?_, fun d s ver z cs hv => ?_, fun d s t ht => ?_, hgl⟩
    · simp [varAt, memAt] at hv
    · simp [tokAt, memAt] at ht
    · cases hb
    · cases ht
    · cases hb
    · simp [varAt, memAt] at hv
    · cases ht
  refine (hc f args [] _ _ h (ghAll w) (fun _ => none) w vals hr (fun d _ => ha d) hcl).mono ?_
  rintro e w' ⟨v, G', ow', rfl, g1, g2, g3, _, g5, g6⟩
  have := g5 0 (by simp)
  simp only [AR] at this
  cases this
  exact ⟨rfl, ⟨g2.env.1, g2.env.2.1, g2.env.2.2, g2.size, fun k hk => g2.same k hk rfl⟩⟩
end Go.Proofs.Ytjbmdfdgeioecaa.Am
/- The abstract machine, part 27: a run with fuel is a run. -/
namespace Go.Proofs.Ytjbmdfdgeioecaa.Am
set_option linter.unusedVariables false
set_option linter.unusedSimpArgs false
variable {P : Program} {fl : Bool}

def ACall.le (c c' : ACall) : Prop := ∀ f a m x, c f a m = some x → c' f a m = some x
theorem aop_le {c c' : ACall} (h : c.le c') {o : Oper} {st : St} {r : AV × List Mem} (e : aop P c fl o st = some r) : aop P c' fl o st = some r := by
  unfold aop at e ⊢
  cases ho : o.op with
  | call x =>
    obtain ⟨callee, args, argTypes⟩ := x
    cases callee with
    | value f =>
      simp only [ho] at e ⊢
      split at e
      · split at e
        · rename_i hcb
          simp only [hcb, if_true]
          split at e
          · rename_i hpl
            simp only [hpl, if_true]
            split at e
            · rename_i y hc
              rw [h _ _ _ _ hc]
              exact e
            · cases e
          · rename_i hpl
            simp only [hpl]
            split at e
            · cases e
            · rename_i hne
              simp only [hne]
              simpa using h _ _ _ _ e
        · cases e
      · cases e
    | builtin b =>
      cases b
      case append => simp only [ho] at e ⊢; exact e
      all_goals (simp only [ho] at e ⊢; exact e)
    | invoke r m => simp only [ho] at e ⊢; exact e
  | makeMap t r => cases r <;> (simp only [ho] at e ⊢; exact e)
  | _ => simp only [ho] at e ⊢; exact e
theorem astep_le {c c' : ACall} (h : c.le c') {ops : Array Oper} {o : Oper} {st st' : St} (e : astep P c fl ops o st = some st') : astep P c' fl ops o st = some st' := by
  unfold astep at e ⊢
  cases hg : o.guard with
  | none =>
    simp only [hg, Option.map_eq_some_iff] at e ⊢
    obtain ⟨q, h1, h2⟩ := e
    exact ⟨q, aop_le h h1, h2⟩
  | some x =>
    obtain ⟨j, want⟩ := x
    simp only [hg] at e ⊢
    split at e
    · split at e
      · rename_i hb
        simp only [Option.map_eq_some_iff] at e
        obtain ⟨q, h1, h2⟩ := e
        simp only [hb, if_true, Option.map_eq_some_iff]
        exact ⟨q, aop_le h h1, h2⟩
      · rename_i hb
        simp only [hb]
        exact e
    · exact e
    · cases e
theorem asteps_le {c c' : ACall} (h : c.le c') {ops : Array Oper} : ∀ (l : List Oper) {st st' : St}, asteps P c fl ops l st = some st' → asteps P c' fl ops l st = some st'
  | [], st, st', e => e
  | o :: l, st, st', e => by
    simp only [asteps, Option.bind_eq_some_iff] at e ⊢
    obtain ⟨s1, e1, e2⟩ := e
    exact ⟨s1, astep_le h e1, asteps_le h l e2⟩
theorem clean_le {c c' : ACall} (h : c.le c') : (ACall.clean c).le (ACall.clean c') := by
  intro f a m x e
  unfold ACall.clean at e ⊢
  split at e
  · rename_i hm; rw [if_pos hm]; exact h _ _ _ _ e
  · rename_i hm
    rw [if_neg hm]
    obtain ⟨v, m'⟩ := x
    obtain ⟨rfl, e2⟩ := stillC_mems e
    rw [h _ _ _ _ e2, stillC_some]
theorem acode_L {c c' : ACall} (h : c.le c') {H : Nat → Hint} {n : Nat} : ∀ (x : Code) {st : St} {r : AExit × St}, acode P c H n x st = some r → acodeL P c' H x st = some r := by
  intro x
  induction x with
  | region id ops draw =>
    intro st r e
    simp only [acodeL, acode, normalC, Option.map_eq_some_iff, Option.bind_eq_some_iff] at e ⊢
    obtain ⟨s1, ⟨s0, e0, e1⟩, e2⟩ := e
    cases draw with
    | false => simp only [Bool.false_eq_true, if_false] at e1 ⊢; exact ⟨s1, ⟨s0, e0, asteps_le h _ e1⟩, e2⟩
    | true => simp only [if_true] at e1 ⊢; exact ⟨s1, ⟨s0, e0, asteps_le (clean_le h) _ e1⟩, e2⟩
  | seq a b iha ihb =>
    intro st r e
    simp only [acodeL, acode] at e ⊢
    rcases thenC_some e with ⟨s1, e1, e2⟩ | ⟨hr, e1⟩
    · rw [iha e1]; exact ihb e2
    · rw [iha e1]
      obtain ⟨x, s⟩ := r
      cases x <;> first | exact absurd rfl hr | rfl
  | cond b a c iha ihc =>
    intro st r e
    simp only [acodeL, acode] at e ⊢
    split at e
    · rename_i t ht
      cases t
      · simp only [Bool.false_eq_true, if_false] at e; simp only [ht, Bool.false_eq_true, if_false]; exact ihc e
      · simp only [if_true] at e; simp only [ht, if_true]; exact iha e
    · cases e
  | block id a ih =>
    intro st r e
    simp only [acodeL, acode] at e ⊢
    cases hq : acode P c H n a st with
    | none => rw [hq] at e; simp [blockC] at e
    | some x => rw [hq] at e; rw [ih hq]; exact e
  | loop a ih =>
    intro st r e
    simp only [acodeL, acode] at e ⊢
    generalize St.forget (H (codeKey a)) = prep at e ⊢
    have key : ∀ (j : Nat) (st : St), aloop (acode P c H n a) prep j st = some r → aloop (acodeL P c' H a) prep j st = some r := by
      intro j
      induction j with
      | zero => intro st h; simp [aloop] at h
      | succ j ihj =>
        intro st h
        rw [aloop] at h ⊢
        rcases thenC_some h with ⟨s1, e1, e2⟩ | ⟨hr, e1⟩
        · rw [ih e1]; exact ihj s1 e2
        · rw [ih e1]
          obtain ⟨x, s⟩ := r
          cases x <;> first | exact absurd rfl hr | rfl
    exact aloopL_some.mpr ⟨n, key n st e⟩
  | scope a ih =>
    intro st r e
    simp only [acodeL, acode] at e ⊢
    exact ih e
  | _ => intro st r e; simp only [acodeL, acode] at e ⊢; exact e
theorem R_fuel {prim : ACall} {T : FTab} : ∀ k, ACall.le (afun P prim T k) (R P prim T) := by
  intro k
  induction k with
  | zero => intro f a m x e; simp [afun] at e
  | succ k ih =>
    intro f args ms r e
    simp only [afun] at e
    cases hh : T f with
    | none => simp only [hh] at e; exact R_prim hh e
    | some h =>
    cases hf : P.funcs[f]? with
    | none => simp [hh, hf] at e
    | some fn =>
    cases hb : fn.body with
    | none => simp [hh, hf, hb] at e
    | some c =>
    simp only [hh, hf, hb] at e
    refine R_some hh hf hb ?_
    unfold bodyRun
    cases hq : acode P (afun P prim T k) h.at k c (enter fn h args ms) with
    | none => rw [hq] at e; simp [leave] at e
    | some x => rw [hq] at e; rw [acode_L ih c hq]; exact e
end Go.Proofs.Ytjbmdfdgeioecaa.Am
