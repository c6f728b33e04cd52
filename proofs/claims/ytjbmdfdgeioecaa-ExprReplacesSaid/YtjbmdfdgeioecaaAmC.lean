/- The abstract machine: loops by name, typed operations. -/
import Derived.Test.YtjbmdfdgeioecaaAmB
/- The abstract machine, part 23: code with its loops named; the laws by which a run is carried out. -/
namespace Go.Proofs.Ytjbmdfdgeioecaa.Am
set_option linter.unusedVariables false
set_option linter.unusedSimpArgs false
variable {P : Program} {fl : Bool}

/-! ### loops by name -/
def loops : Code → List Code
  | .loop c => c :: loops c
  | .seq a b => loops a ++ loops b
  | .cond _ a b => loops a ++ loops b
  | .block _ c => loops c
  | .scope c => loops c
  | _ => []
theorem loops_sub {d e : Code} : ∀ {c : Code}, d ∈ loops c → e ∈ loops d → e ∈ loops c := by
  intro c
  induction c with
  | loop c ih =>
    intro h h'
    simp only [loops, List.mem_cons] at h ⊢
    rcases h with rfl | h
    · exact .inr h'
    · exact .inr (ih h h')
  | seq a b iha ihb => intro h h'; simp only [loops, List.mem_append] at h ⊢; exact h.imp (iha · h') (ihb · h')
  | cond x a b iha ihb => intro h h'; simp only [loops, List.mem_append] at h ⊢; exact h.imp (iha · h') (ihb · h')
  | block id c ih => intro h h'; simp only [loops] at h ⊢; exact ih h h'
  | scope c ih => intro h h'; simp only [loops] at h ⊢; exact ih h h'
  | _ => intro h; simp [loops] at h
noncomputable def acodeX (P : Program) (call : ACall) (Z : List (Nat × List Prep)) (L : Nat → St → Out) : Code → St → Out
  | .skip, st => some (.normal, st)
  | .label _, st => some (.normal, st)
  | .region id ops draw, st => normalC ((St.preps ((Z.lookup id).getD []) st).bind (asteps P (if draw then ACall.clean call else call) (flagOf ((Z.lookup id).getD [])) ops ops.toList))
  | .seq a b, st => thenC (acodeX P call Z L a st) (acodeX P call Z L b)
  | .cond c x y, st => match st.eval c with
    | .pv (.bool b) => if b then acodeX P call Z L x st else acodeX P call Z L y st
    | _ => none
  | .block id c, st => blockC id (acodeX P call Z L c st)
  | .loop c, st => L (codeKey c) st
  | .exit id, st => some (.exit id, st)
  | .ret, st => some (.ret, st)
  | .scope c, st => acodeX P call Z L c st
  | _, _ => none
theorem acodeX_eq {call : ACall} {H : Nat → Hint} {Z : List (Nat × List Prep)} {L : Nat → St → Out} (hZ : ∀ id, (H id).preps = (Z.lookup id).getD []) : ∀ {c : Code}, (∀ d ∈ loops c, ∀ st, L (codeKey d) st = acodeL P call H (.loop d) st) → ∀ st, acodeX P call Z L c st = acodeL P call H c st := by
  intro c
  induction c with
  | seq a b iha ihb =>
    intro h st
    simp only [loops, List.mem_append] at h
    simp only [acodeX, acodeL]
    rw [iha (fun d hd => h d (.inl hd)), funext (ihb fun d hd => h d (.inr hd))]
  | cond x a b iha ihb =>
    intro h st
    simp only [loops, List.mem_append] at h
    have ha := iha fun d hd => h d (.inl hd)
    have hb := ihb fun d hd => h d (.inr hd)
    simp only [acodeX, acodeL, ha, hb]
    cases st.eval x with
    | pv p => cases p <;> rfl
    | _ => rfl
  | block id c ih => intro h st; simp only [loops] at h; simp only [acodeX, acodeL]; rw [ih h]
  | scope c ih => intro h st; simp only [loops] at h; simp only [acodeX, acodeL]; rw [ih h]
  | loop c ih => intro h st; simp only [acodeX]; exact h c (by simp [loops]) st
  | region id ops draw => intro h st; simp only [acodeX, acodeL, hZ]
  | _ => intro h st; simp only [acodeX, acodeL]
noncomputable def loopsOf (P : Program) (call : ACall) (H : Nat → Hint) (body : Code) : Nat → St → Out := fun k st =>
  match (loops body).find? fun c => codeKey c == k with
  | some c => acodeL P call H (.loop c) st
  | none => none
def keysB (l : List Nat) : Bool := match l with
  | [] => true
  | k :: ks => !ks.contains k && keysB ks
theorem find_key {l : List Code} (h : keysB (l.map codeKey) = true) {c : Code} (hc : c ∈ l) : l.find? (fun d => codeKey d == codeKey c) = some c := by
  induction l with
  | nil => cases hc
  | cons d l ih =>
    simp only [List.map_cons, keysB, Bool.and_eq_true, Bool.not_eq_true'] at h
    rcases List.mem_cons.mp hc with rfl | hc
    · simp
    · have hne : (codeKey d == codeKey c) = false := by
        apply Bool.eq_false_iff.mpr
        intro he
        have := h.1
        rw [beq_iff_eq] at he
        rw [he] at this
        have hm : (l.map codeKey).contains (codeKey c) = true := by
          rw [List.contains_iff_mem]
          exact List.mem_map_of_mem hc
        rw [hm] at this
        cases this
      rw [List.find?_cons, hne]
      exact ih h.2 hc
theorem body_X {call : ACall} {H : Nat → Hint} {Z : List (Nat × List Prep)} {body : Code} (hZ : ∀ id, (H id).preps = (Z.lookup id).getD []) (hk : keysB ((loops body).map codeKey) = true) (st : St) : acodeX P call Z (loopsOf P call H body) body st = acodeL P call H body st :=
  acodeX_eq hZ (fun d hd st => by unfold loopsOf; rw [find_key hk hd]) st
/-- A loop, behind its head. -/
noncomputable def loopX (P : Program) (call : ACall) (Z : List (Nat × List Prep)) (H : Nat → Hint) (body : Code) (k : Nat) (c : Code) (st : St) : Out :=
  thenC (acodeX P call Z (loopsOf P call H body) c st) (loopsOf P call H body k)
theorem loop_X {call : ACall} {H : Nat → Hint} {Z : List (Nat × List Prep)} {body c : Code} {i : Nat} (hZ : ∀ id, (H id).preps = (Z.lookup id).getD []) (hk : keysB ((loops body).map codeKey) = true) (hc : (loops body)[i]? = some c) (k : Nat) (he : codeKey c = k) (st : St) :
    loopsOf P call H body k st = loopX P call Z H body k c (St.forget (H k) st) := by
  subst he
  have hm : c ∈ loops body := List.mem_of_getElem? hc
  have hX := fun st => acodeX_eq (P := P) (call := call) (H := H) (L := loopsOf P call H body) (c := c) hZ (fun d hd st => by unfold loopsOf; rw [find_key hk (loops_sub hm hd)]) st
  have e : ∀ st, loopsOf P call H body (codeKey c) st = aloopL (acodeL P call H c) (St.forget (H (codeKey c))) st := fun st => by
    unfold loopsOf
    rw [find_key hk hm]
    rfl
  rw [e, aloopL_eq, loopX, hX]
  congr 1
  funext st
  exact (e st).symm
theorem R_run {prim : ACall} {T : FTab} {f : FuncId} {h : FHint} {Z : List (Nat × List Prep)} {fn : Func} {c : Code} (hT : T f = some h) (hf : P.funcs[f]? = some fn) (hb : fn.body = some c) (hk : keysB ((loops c).map codeKey) = true) {args : List AV} {ms : List Mem} {r : AV × List Mem}
    (hz : h.preps = Z) (e : leave P fn ms.length (acodeX P (R P prim T) Z (loopsOf P (R P prim T) h.at c) c (enter fn h args ms)) = some r) : R P prim T f args ms = some r :=
  R_some hT hf hb (by unfold bodyRun; rw [← body_X (Z := Z) (fun id => by rw [← hz]; rfl) hk]; exact e)

def leaveR (P : Program) (rs : List ResultVar) (n : Nat) (r : Out) : Option (AV × List Mem) :=
  match r with
  | some (.exit _, _) => none
  | some (_, st) => (aresults P st rs).map fun ys => ((pack ys).exp n, st.mems.tail)
  | none => none
def enterN (n : Nat) (h : FHint) (args : List AV) (ms : List Mem) : St := ⟨args ++ List.replicate (n - args.length) .junk, freshMem h :: ms⟩
theorem R_runN {prim : ACall} {T : FTab} {f : FuncId} {h : FHint} {Z : List (Nat × List Prep)} {fn : Func} {c : Code} {n : Nat} {rs : List ResultVar} (hT : T f = some h) (hf : P.funcs[f]? = some fn) (hb : fn.body = some c) (hk : keysB ((loops c).map codeKey) = true) (hn : fn.ntmps = n) (hr : fn.results.toList = rs) {args : List AV} {ms : List Mem} {r : AV × List Mem}
    (hz : h.preps = Z) (e : leaveR P rs ms.length (acodeX P (R P prim T) Z (loopsOf P (R P prim T) h.at c) c (enterN n h args ms)) = some r) : R P prim T f args ms = some r := by
  subst hn; subst hr
  exact R_run hT hf hb hk hz e

/-! ### one step after the other -/
def stepC (P : Program) (call : ACall) (fl : Bool) (ops : Array Oper) (l : List Oper) : Option St → Option St
  | some st => asteps P call fl ops l st
  | none => none
def putC (ts : List AV) (dst : Option Tmp) : Option (AV × List Mem) → Option St
  | some (y, ms) => some (St.put ⟨ts, ms⟩ dst y)
  | none => none
def pickC (c x y : AV) : Option AV :=
  match c with
  | .pv (.bool t) => some (if t then x else y)
  | _ => none
def guardC (g : Option AV) (want : Bool) (x y : Option St) : Option St :=
  match g with
  | some (.pv (.bool b)) => if b = want then x else y
  | some (.tup []) => y
  | _ => none
def keepC (ms : List Mem) : Option AV → Option (AV × List Mem)
  | some y => some (y, ms)
  | none => none
section
variable (call : ACall) (ops : Array Oper) (l : List Oper) (o : Oper) (st : St) (ts : List AV) (ms : List Mem)
theorem asteps_nil : asteps P call fl ops [] st = some st := rfl
theorem asteps_cons : asteps P call fl ops (o :: l) st = stepC P call fl ops l (astep P call fl ops o st) := by
  simp only [asteps]; cases astep P call fl ops o st <;> rfl
theorem stepC_some : stepC P call fl ops l (some st) = asteps P call fl ops l st := rfl
theorem stepC_ite (c : Prop) [Decidable c] (x y : Option St) : stepC P call fl ops l (if c then x else y) = if c then stepC P call fl ops l x else stepC P call fl ops l y := by split <;> rfl
theorem putC_some (d : Tmp) (y : AV) : putC ts (some d) (some (y, ms)) = some ⟨ts.set d y, ms⟩ := rfl
theorem putC_no (y : AV) : putC ts none (some (y, ms)) = some ⟨ts, ms⟩ := rfl
theorem putC_ite (d : Option Tmp) (c : Prop) [Decidable c] (x y : Option (AV × List Mem)) : putC ts d (if c then x else y) = if c then putC ts d x else putC ts d y := by split <;> rfl
theorem keepC_some (y : AV) : keepC ms (some y) = some (y, ms) := rfl
theorem keepC_ite (c : Prop) [Decidable c] (x y : Option AV) : keepC ms (if c then x else y) = if c then keepC ms x else keepC ms y := by split <;> rfl
theorem thenC_n (k : St → Out) : thenC (some (.normal, st)) k = k st := rfl
theorem thenC_r (k : St → Out) : thenC (some (.ret, st)) k = some (.ret, st) := rfl
theorem thenC_e (k : St → Out) (i : Nat) : thenC (some (.exit i, st)) k = some (.exit i, st) := rfl
theorem thenC_ite (k : St → Out) (c : Prop) [Decidable c] (x y : Out) : thenC (if c then x else y) k = if c then thenC x k else thenC y k := by split <;> rfl
theorem blockC_n (i : Nat) : blockC i (some (.normal, st)) = some (.normal, st) := rfl
theorem blockC_r (i : Nat) : blockC i (some (.ret, st)) = some (.ret, st) := rfl
theorem blockC_e (i j : Nat) : blockC i (some (.exit j, st)) = if j = i then some (.normal, st) else some (.exit j, st) := rfl
theorem blockC_ite (i : Nat) (c : Prop) [Decidable c] (x y : Out) : blockC i (if c then x else y) = if c then blockC i x else blockC i y := by split <;> rfl
theorem normalC_s : normalC (some st) = some (.normal, st) := rfl
theorem normalC_ite (c : Prop) [Decidable c] (x y : Option St) : normalC (if c then x else y) = if c then normalC x else normalC y := by split <;> rfl
theorem astep_n (dst : Option Tmp) (op : Op) (ty : TypeId) (pos : String) (after : Array Edge) : astep P call fl ops ⟨dst, op, ty, pos, after, none⟩ ⟨ts, ms⟩ = putC ts dst (aop P call fl ⟨dst, op, ty, pos, after, none⟩ ⟨ts, ms⟩) := by
  simp only [astep]
  cases aop P call fl ⟨dst, op, ty, pos, after, none⟩ ⟨ts, ms⟩ <;> rfl
/-- An operation under a guard. -/
theorem astep_g (dst : Option Tmp) (op : Op) (ty : TypeId) (pos : String) (after : Array Edge) (j : Nat) (want : Bool) :
    astep P call fl ops ⟨dst, op, ty, pos, after, some (j, want)⟩ ⟨ts, ms⟩ = guardC (((ops[j]?).bind (·.dst)).bind (ts[·]?)) want (putC ts dst (aop P call fl ⟨dst, op, ty, pos, after, some (j, want)⟩ ⟨ts, ms⟩)) (some (St.put ⟨ts, ms⟩ dst (.tup []))) := by
  simp only [astep, guardC]
  generalize ((ops[j]?).bind (·.dst)).bind (ts[·]?) = q
  cases q with
  | none => rfl
  | some v =>
    cases v with
    | pv p =>
      cases p with
      | bool b =>
        simp only
        split
        · cases aop P call fl ⟨dst, op, ty, pos, after, some (j, want)⟩ ⟨ts, ms⟩ <;> rfl
        · rfl
      | _ => rfl
    | tup l => cases l <;> rfl
    | _ => rfl
theorem put_some (d : Tmp) (y : AV) : St.put ⟨ts, ms⟩ (some d) y = ⟨ts.set d y, ms⟩ := rfl
theorem put_no (y : AV) : St.put ⟨ts, ms⟩ none y = ⟨ts, ms⟩ := rfl
variable (dst : Option Tmp) (ty : TypeId) (pos : String) (after : Array Edge) (g : Option (Nat × Bool))
theorem aop_move (x : Operand) : aop P call fl ⟨dst, .move x, ty, pos, after, g⟩ st = some (st.eval x, st.mems) := rfl
theorem aop_assign (x : Operand) : aop P call fl ⟨dst, .assign x, ty, pos, after, g⟩ st = some (st.eval x, st.mems) := rfl
theorem aop_pick (c x y : Operand) : aop P call fl ⟨dst, .pick c x y, ty, pos, after, g⟩ st = keepC st.mems (pickC (st.eval c) (st.eval x) (st.eval y)) := by
  simp only [aop, apure, pickC]
  cases st.eval c with
  | pv p => cases p <;> rfl
  | _ => rfl
theorem aop_box (s : Tmp) (t : TypeId) (x : Operand) : aop P call fl ⟨some s, .box t x, ty, pos, after, g⟩ st = if (st.eval x).isJunk = false then anew st s (st.eval x).cells else none := rfl
theorem aop_load (t : TypeId) (x : Operand) : aop P call fl ⟨dst, .load t x, ty, pos, after, g⟩ st = keepC st.mems (guardR fl (st.eval x) (aload P st t (st.eval x))) := by
  simp only [aop]; cases guardR fl (st.eval x) (aload P st t (st.eval x)) <;> rfl
theorem aop_store (t : TypeId) (p x : Operand) : aop P call fl ⟨dst, .store t p x, ty, pos, after, g⟩ st = astore P st t (st.eval p) (st.eval x) := rfl
theorem aop_bin (b : BinOp) (t t' : TypeId) (x y : Operand) : aop P call fl ⟨dst, .binOp b t x y t', ty, pos, after, g⟩ st = keepC st.mems (abin P b t (st.eval x) (st.eval y)) := by
  simp only [aop, apure]; cases abin P b t (st.eval x) (st.eval y) <;> rfl
theorem aop_un (b : UnOp) (t : TypeId) (x : Operand) : aop P call fl ⟨dst, .unOp b t x, ty, pos, after, g⟩ st = keepC st.mems (aun b (st.eval x)) := by
  simp only [aop, apure]; cases aun b (st.eval x) <;> rfl
theorem aop_fieldAddr (t : TypeId) (x : Operand) (f : Nat) : aop P call fl ⟨dst, .fieldAddr t x f, ty, pos, after, g⟩ st = keepC st.mems (afield P t (st.eval x) f) := by
  simp only [aop, apure]; cases afield P t (st.eval x) f <;> rfl
theorem aop_field (t : TypeId) (x : Operand) (f : Nat) : aop P call fl ⟨dst, .field t x f, ty, pos, after, g⟩ st = keepC st.mems (afieldv P t (st.eval x) f) := by
  simp only [aop, apure]; cases afieldv P t (st.eval x) f <;> rfl
theorem aop_indexAddr (t : TypeId) (x i : Operand) : aop P call fl ⟨dst, .indexAddr t x i, ty, pos, after, g⟩ st = keepC st.mems (aindex P t (st.eval x) (st.eval i)) := by
  simp only [aop, apure]; cases aindex P t (st.eval x) (st.eval i) <;> rfl
theorem aop_slice (t : TypeId) (x : Operand) (lo hi : Option Operand) : aop P call fl ⟨dst, .slice t x lo hi none, ty, pos, after, g⟩ st = keepC st.mems (aslice P t (st.eval x) (lo.map st.eval) (hi.map st.eval)) := by
  simp only [aop, apure]; cases aslice P t (st.eval x) (lo.map st.eval) (hi.map st.eval) <;> rfl
theorem aop_slice3 (t : TypeId) (x m : Operand) (lo hi : Option Operand) : aop P call fl ⟨dst, .slice t x lo hi (some m), ty, pos, after, g⟩ st = keepC st.mems (aslice3 P t (st.eval x) (lo.map st.eval) (hi.map st.eval) (some (st.eval m))) := by
  simp only [aop, apure]; cases aslice3 P t (st.eval x) (lo.map st.eval) (hi.map st.eval) (some (st.eval m)) <;> rfl
theorem aop_make (t : TypeId) (x y : Operand) : aop P call fl ⟨dst, .makeSlice t x y, ty, pos, after, g⟩ st = amake P st dst t (st.eval x) (st.eval y) := rfl
def nilC : AV → Option AV
  | .ptr loc s off => some (.ptr loc s off)
  | .eptr cs => some (.eptr cs)
  | .cptr q y => some (.cptr q y)
  | .rptr loc s v off => some (.rptr loc s v off)
  | _ => none
theorem aop_nilCheck (x : Operand) : aop P call fl ⟨dst, .nilCheck x, ty, pos, after, g⟩ st = keepC st.mems (nilC (st.eval x)) := by
  simp only [aop, apure, nilC]; cases st.eval x <;> rfl
theorem aop_makeMap (s : Tmp) (t : TypeId) : aop P call fl ⟨some s, .makeMap t none, ty, pos, after, g⟩ st = amapNew st s := rfl
theorem aop_mapUpdate (t : TypeId) (m k x : Operand) : aop P call fl ⟨dst, .mapUpdate t m k x, ty, pos, after, g⟩ st = amapSet P st t (st.eval m) (st.eval k) (st.eval x) := rfl
theorem aop_insert (t : TypeId) (m k x : Operand) : aop P call fl ⟨dst, .insert t m k x, ty, pos, after, g⟩ st = amapSet P st t (st.eval m) (st.eval k) (st.eval x) := rfl
theorem aop_lookup (t : TypeId) (x i : Operand) (ok : Bool) : aop P call fl ⟨dst, .lookup t x i ok, ty, pos, after, g⟩ st = keepC st.mems (amapGet P st t (st.eval x) (st.eval i) ok) := by
  simp only [aop, apure]; cases amapGet P st t (st.eval x) (st.eval i) ok <;> rfl
theorem aop_extract (x : Operand) (i : Nat) : aop P call fl ⟨dst, .extract x i, ty, pos, after, g⟩ st = keepC st.mems (aextract (st.eval x) i) := by
  simp only [aop, apure]; cases aextract (st.eval x) i <;> rfl
theorem aop_makeFunc (f : FuncId) (first caps : Array Operand) : aop P call fl ⟨dst, .makeFunc (.func f) first caps, ty, pos, after, g⟩ st = some (.func f (first.toList.map st.eval) (caps.toList.map st.eval), st.mems) := rfl
theorem aop_build (t : TypeId) (parts : Array (Nat × Operand)) : aop P call fl ⟨dst, .build t parts, ty, pos, after, g⟩ st = keepC st.mems (abuild P t (parts.toList.map fun p => (p.1, st.eval p.2))) := by
  simp only [aop, apure]; cases abuild P t (parts.toList.map fun p => (p.1, st.eval p.2)) <;> rfl
theorem aop_buildSlice (t : TypeId) (n : Nat) (parts : Array (Nat × Operand)) : aop P call fl ⟨dst, .buildSlice t n parts, ty, pos, after, g⟩ st = keepC st.mems (abuildSlice P t n (parts.toList.map fun p => (p.1, st.eval p.2))) := by
  simp only [aop]; cases abuildSlice P t n (parts.toList.map fun p => (p.1, st.eval p.2)) <;> rfl
theorem aop_len (x : Operand) (t : TypeId) : aop P call fl ⟨dst, .call ⟨.builtin .len, #[x], #[t]⟩, ty, pos, after, g⟩ st = keepC st.mems (alen P t (st.eval x)) := by
  simp only [aop, apure]; cases alen P t (st.eval x) <;> rfl
theorem aop_min (x y : Operand) (ts' : Array TypeId) : aop P call fl ⟨dst, .call ⟨.builtin .min, #[x, y], ts'⟩, ty, pos, after, g⟩ st = keepC st.mems (amin2 (st.eval x) (st.eval y)) := by
  simp only [aop, apure]; cases amin2 (st.eval x) (st.eval y) <;> rfl
theorem aop_max (x y : Operand) (ts' : Array TypeId) : aop P call fl ⟨dst, .call ⟨.builtin .max, #[x, y], ts'⟩, ty, pos, after, g⟩ st = keepC st.mems (amax2 (st.eval x) (st.eval y)) := by
  simp only [aop, apure]; cases amax2 (st.eval x) (st.eval y) <;> rfl
theorem aop_app (x y : Operand) (t t' : TypeId) : aop P call fl ⟨dst, .call ⟨.builtin .append, #[x, y], #[t, t']⟩, ty, pos, after, g⟩ st = aappend P st dst t t' (st.eval x) (st.eval y) := rfl
/-- A call's outcome. -/
def cleanC (ms : List Mem) : Option (AV × List Mem) → Option (AV × List Mem)
  | some (r, []) => some (r, ms)
  | _ => none
def callF (P : Program) (call : ACall) (st : St) (fid : FuncId) (ok : Bool) (xs : List AV) (pl : Bool) : Option (AV × List Mem) :=
  if ok = true then
    if pl = true then cleanC st.mems (call fid (exps 0 xs) [])
    else if st.mems.isEmpty = true then none else call fid (relocs st.d xs) st.mems
  else none
def callC (P : Program) (call : ACall) (st : St) (f : AV) (args : List AV) : Option (AV × List Mem) :=
  match f with
  | .func fid first caps => callF P call st fid (callable P fid) (first ++ args ++ caps) (plains (first ++ args ++ caps))
  | _ => none
theorem aop_call (f : Operand) (args : Array Operand) (ts' : Array TypeId) : aop P call fl ⟨dst, .call ⟨.value f, args, ts'⟩, ty, pos, after, g⟩ st = callC P call st (st.eval f) (args.toList.map st.eval) := by
  unfold aop callC callF cleanC
  simp only
  cases st.eval f <;> rfl
end

/-! ### temporaries and memories -/
theorem eval_tmp (ts : List AV) (ms : List Mem) (t : Tmp) : St.eval ⟨ts, ms⟩ (.tmp t) = ts.getD t .junk := rfl
theorem eval_int (st : St) (k : IntKind) (n : Int) : st.eval (.const (.int k n)) = .pv (.int k n) := rfl
theorem eval_bool (st : St) (b : Bool) : st.eval (.const (.bool b)) = .pv (.bool b) := rfl
theorem eval_str (st : St) (s : ByteArray) : st.eval (.const (.string s)) = .pv (.str s) := rfl
theorem eval_nil (st : St) : st.eval (.const (.slice none 0 0)) = .full [] := rfl
theorem eval_func (st : St) (f : FuncId) : st.eval (.func f) = .func f [] [] := rfl
theorem getD_z (x : AV) (xs : List AV) (d : AV) : (x :: xs).getD 0 d = x := rfl
theorem getD_s (x : AV) (xs : List AV) (n : Nat) (d : AV) : (x :: xs).getD (n + 1) d = xs.getD n d := rfl
theorem d_cons (ts : List AV) (m : Mem) (ms : List Mem) : St.d ⟨ts, m :: ms⟩ = ms.length := rfl
theorem varAt_top (m : Mem) (ms : List Mem) (s : Nat) : varAt (m :: ms) ms.length s = m.vars.lookup s := by simp [varAt, memAt]
theorem varAt_out {m : Mem} {ms : List Mem} {d : Nat} (h : d ≠ ms.length) (s : Nat) : varAt (m :: ms) d s = varAt ms d s := by simp [varAt, memAt, h]
theorem tokAt_top (m : Mem) (ms : List Mem) (s : Nat) : tokAt (m :: ms) ms.length s = (m.toks.lookup s).filter fun t => t.1 != 0 := by simp [tokAt, memAt]
theorem setVar_top (vs : List (Nat × List AV)) (tk : List (Nat × Nat × Nat)) (ms : List Mem) (s : Nat) (cs : List AV) : setVar (⟨vs, tk⟩ :: ms) ms.length s cs = ⟨setAt s cs vs, tk⟩ :: ms := by simp [setVar, modMem]
theorem setVar_out {m : Mem} {ms : List Mem} {d : Nat} (h : d ≠ ms.length) (s : Nat) (cs : List AV) : setVar (m :: ms) d s cs = m :: setVar ms d s cs := by simp [setVar, modMem, h]
theorem setTok_top (vs : List (Nat × List AV)) (tk : List (Nat × Nat × Nat)) (ms : List Mem) (s : Nat) (t : Nat × Nat) : setTok (⟨vs, tk⟩ :: ms) ms.length s t = ⟨vs, setAt s t tk⟩ :: ms := by simp [setTok, modMem]
theorem anew_top (ts : List AV) (vs : List (Nat × List AV)) (tk : List (Nat × Nat × Nat)) (ms : List Mem) (s : Nat) (cs : List AV) : anew ⟨ts, ⟨vs, tk⟩ :: ms⟩ s cs = if (vs.lookup s).isNone = true then some (.ptr none s 0, ⟨setAt s cs vs, tk⟩ :: ms) else none := by
  simp only [anew, d_cons, varAt_top, setVar_top, ne_eq, reduceCtorEq, not_false_eq_true, and_true]
theorem look_hit {β : Type} (s : Nat) (c : β) (l : List (Nat × β)) : ((s, c) :: l).lookup s = some c := by simp [List.lookup]
theorem look_miss {β : Type} {s t : Nat} (h : (s == t) = false) (c : β) (l : List (Nat × β)) : ((t, c) :: l).lookup s = l.lookup s := by simp [List.lookup, h]
theorem look_nil {β : Type} (s : Nat) : ([] : List (Nat × β)).lookup s = none := rfl
theorem setAt_nil {β : Type} (s : Nat) (c : β) : setAt s c [] = [(s, c)] := rfl
theorem setAt_hit {β : Type} (s : Nat) (c c' : β) (l : List (Nat × β)) : setAt s c ((s, c') :: l) = (s, c) :: l := by simp [setAt]
theorem setAt_miss {β : Type} {s t : Nat} (h : t ≠ s) (c c' : β) (l : List (Nat × β)) : setAt s c ((t, c') :: l) = (t, c') :: setAt s c l := by simp [setAt, h]
theorem leave_ret (fn : Func) (n : Nat) (st : St) : leave P fn n (some (.ret, st)) = (aresults P st fn.results.toList).map fun ys => ((pack ys).exp n, st.mems.tail) := rfl
theorem leave_normal (fn : Func) (n : Nat) (st : St) : leave P fn n (some (.normal, st)) = (aresults P st fn.results.toList).map fun ys => ((pack ys).exp n, st.mems.tail) := rfl
theorem leaveR_ret (rs : List ResultVar) (n : Nat) (st : St) : leaveR P rs n (some (.ret, st)) = (aresults P st rs).map fun ys => ((pack ys).exp n, st.mems.tail) := rfl
theorem leaveR_normal (rs : List ResultVar) (n : Nat) (st : St) : leaveR P rs n (some (.normal, st)) = (aresults P st rs).map fun ys => ((pack ys).exp n, st.mems.tail) := rfl
theorem leaveR_ite (rs : List ResultVar) (n : Nat) (c : Prop) [Decidable c] (x y : Out) : leaveR P rs n (if c then x else y) = if c then leaveR P rs n x else leaveR P rs n y := by split <;> rfl
theorem leave_ite (fn : Func) (n : Nat) (c : Prop) [Decidable c] (x y : Out) : leave P fn n (if c then x else y) = if c then leave P fn n x else leave P fn n y := by split <;> rfl
end Go.Proofs.Ytjbmdfdgeioecaa.Am
/- The abstract machine, part 24: operations by their types' sizes; rows that begin empty. -/
namespace Go.Proofs.Ytjbmdfdgeioecaa.Am
set_option linter.unusedVariables false
set_option linter.unusedSimpArgs false
variable {P : Program}

/-! ### parts of code -/
def cA : Code → Code | .seq a _ => a | _ => .skip
def cB : Code → Code | .seq _ b => b | _ => .skip
def cK : Code → Code | .block _ c => c | _ => .skip
def cL : Code → Code | .loop c => c | _ => .skip
def cS : Code → Code | .scope c => c | _ => .skip
def cT : Code → Code | .cond _ a _ => a | _ => .skip
def cE : Code → Code | .cond _ _ b => b | _ => .skip
theorem tab_ok {l : List (Nat × FHint)} (h : (l.all fun p => okFun P p.1 p.2) = true) : ∀ (f : FuncId) (x : FHint), l.lookup f = some x → okFun P f x = true := by
  intro f x hx
  have : (f, x) ∈ l := by
    clear h
    induction l with
    | nil => simp at hx
    | cons p l ih =>
      obtain ⟨k, y⟩ := p
      simp only [List.lookup] at hx
      split at hx
      · rename_i he
        simp only [Option.some.injEq] at hx
        rw [beq_iff_eq] at he
        subst hx; subst he
        exact List.mem_cons_self
      · exact List.mem_cons_of_mem _ (ih hx)
  exact List.all_eq_true.mp h _ this

/-! ### operations -/
theorem aindex_C {t el : TypeId} {sz : Nat} (hu : P.underlying t = some (.slice el)) (hi : (P.info? el).map (·.size) = some sz) (x : AV) (k : IntKind) (n : Int) : aindex P t x (.pv (.int k n)) = indexC sz x n := by
  cases hq : P.info? el with
  | none => simp [hq] at hi
  | some i =>
    simp only [hq, Option.map_some, Option.some.injEq] at hi
    subst hi
    unfold aindex
    simp only [hu, hq]
    rfl
def sliceC (sz : Nat) (x : AV) (lo hi : Option AV) : Option AV :=
  match x.slc? with
  | some es => if sized sz es then (abound hi es.length es.length).bind fun h => (abound lo 0 h).map fun l => .pv (.slc ((es.take h).drop l)) else none
  | none => none
theorem aslice_C {t el : TypeId} {sz : Nat} (hu : P.underlying t = some (.slice el)) (hi : (P.info? el).map (·.size) = some sz) (x : AV) (lo hi' : Option AV) : aslice P t x lo hi' = sliceC sz x lo hi' := by
  cases hq : P.info? el with
  | none => simp [hq] at hi
  | some i =>
    simp only [hq, Option.map_some, Option.some.injEq] at hi
    subst hi
    unfold aslice sliceC
    simp only [hu, hq]
    cases x.slc? <;> rfl
def appendC (sz bytes : Nat) (st : St) (dst : Option Tmp) (x y : AV) : Option (AV × List Mem) :=
  match y.slc?, dst with
  | some ys, some s =>
    if sized sz ys = true ∧ st.mems ≠ [] then
      match x with
      | .full es => if ys.isEmpty then some (.full es, st.mems) else if (varAt st.mems st.d s).isNone = false then (rwAt st.mems st.d s).bind fun q =>
          if es.isEmpty = true ∧ q.2.1 = sz ∧ q.2.2.isEmpty = true ∧ ys.length * bytes ≤ 140737488355328 then some (.row none s (q.1 + 2) ys.length, setVar st.mems st.d s [.mrw (q.1 + 2) sz (cellsOf ys)]) else none
        else if sized sz es = true ∧ (es.length + ys.length) * bytes ≤ 140737488355328 ∧ (tokAt st.mems st.d s).isNone then
          some (.own none s (es ++ ys), setTok st.mems st.d s (es.length + ys.length, sz)) else none
      | .own loc s' es => if tokAt st.mems (loc.getD st.d) s' = some (es.length, sz) ∧ (es.length + ys.length) * bytes ≤ 140737488355328 then
          some (.own loc s' (es ++ ys), setTok st.mems (loc.getD st.d) s' (es.length + ys.length, sz)) else none
      | .row loc s' ver n => if ys.isEmpty then some (.row loc s' ver n, st.mems) else (rwAt st.mems (loc.getD st.d) s').bind fun q =>
          if q.1 = ver ∧ q.2.1 = sz ∧ q.2.2.length = n * sz ∧ (n + ys.length) * bytes ≤ 140737488355328 then
            some (.row loc s' (ver + 1) (n + ys.length), setVar st.mems (loc.getD st.d) s' [.mrw (ver + 1) sz (q.2.2 ++ cellsOf ys)]) else none
      | _ => none
    else none
  | _, _ => none
theorem aappend_C {t el : TypeId} {sz bytes : Nat} (hu : P.underlying t = some (.slice el)) (hi : (P.info? el).map (fun i => (i.size, i.bytes, (match i.zero with | some z => z.cells.size == i.size | none => false))) = some (sz, bytes, true))
    (hb : (decide (0 < bytes) && decide (0 < sz)) = true) (st : St) (dst : Option Tmp) (x y : AV) : aappend P st dst t t x y = appendC sz bytes st dst x y := by
  cases hq : P.info? el with
  | none => simp [hq] at hi
  | some i =>
    simp only [hq, Option.map_some, Option.some.injEq, Prod.mk.injEq] at hi
    obtain ⟨rfl, rfl, hz⟩ := hi
    simp only [Bool.and_eq_true, decide_eq_true_eq] at hb
    have hei : elemInfo P t = some i := by simp [elemInfo, hu, hq]
    have hf : ∀ n, (fits i n = true) = (n * i.bytes ≤ 140737488355328) := fun n => by
      simp only [fits, hb.1, hb.2, decide_true, Bool.and_true, Bool.and_eq_true, decide_eq_true_eq, eq_iff_iff, and_iff_left_iff_imp]
      exact fun _ => hz
    unfold aappend appendC
    simp only [hu, hei]
    cases y.slc? with
    | none => rfl
    | some ys =>
      cases dst with
      | none => rfl
      | some s =>
        simp only [hf, true_and]
        cases x <;> rfl

def makeC (sz bytes : Nat) (zp : List PV) (st : St) (dst : Option Tmp) (n m : Int) : Option (AV × List Mem) :=
  match dst with
  | some s => if n = m ∧ 0 ≤ n ∧ n * bytes ≤ 140737488355328 ∧ (varAt st.mems st.d s).isNone ∧ st.mems ≠ [] then
      some (.row none s 0 n.toNat, setVar st.mems st.d s [.mrw 0 sz (zrow n.toNat zp)]) else none
  | none => none
theorem amake_C {t el : TypeId} {sz bytes : Nat} {zp : List PV} (hu : P.underlying t = some (.slice el)) (hi : (P.info? el).map (fun i => (i.size, i.bytes)) = some (sz, bytes))
    (hz : ((P.info? el).bind (·.zero)).bind (fun z => leaves? (z.cells.toList.map ofVal)) = some zp) (hs : (((P.info? el).bind (·.zero)).map fun z => z.cells.size == sz) = some true) (hb : decide (0 < bytes) = true) (st : St) (dst : Option Tmp) (k k' : IntKind) (n m : Int) :
    amake P st dst t (.pv (.int k n)) (.pv (.int k' m)) = makeC sz bytes zp st dst n m := by
  cases hq : P.info? el with
  | none => simp [hq] at hi
  | some i =>
    simp only [hq, Option.map_some, Option.some.injEq, Prod.mk.injEq] at hi
    obtain ⟨rfl, rfl⟩ := hi
    simp only [hq, Option.bind_some] at hz hs
    cases hz0 : i.zero with
    | none => simp [hz0] at hz
    | some z =>
      simp only [hz0, Option.bind_some, Option.map_some, Option.some.injEq, beq_iff_eq] at hz hs
      simp only [decide_eq_true_eq] at hb
      unfold amake makeC
      cases dst with
      | none => simp [hu]
      | some s => simp [hu, hq, hz0, hz, hs, hb]

/-! ### a row that begins empty -/
def mkOwn (s : Nat) (es : List PV) : AV := match es with | [] => .full [] | _ :: _ => .own none s es
def rowT (es : List PV) (sz : Nat) : Nat × Nat := match es with | [] => (0, 0) | _ :: _ => (es.length, sz)
theorem appendC_mk {sz bytes : Nat} {ts : List AV} {vs : List (Nat × List AV)} {tk : List (Nat × Nat × Nat)} {ms : List Mem} {s : Nat} {es : List PV} {p : PV}
    (hv : vs.lookup s = none) (hr : tk.lookup s = some (rowT es sz)) (hp : p.cells.length = sz) (hb : (es.length + 1) * bytes ≤ 140737488355328) :
    appendC sz bytes ⟨ts, ⟨vs, tk⟩ :: ms⟩ (some s) (mkOwn s es) (.full [p]) = some (mkOwn s (es ++ [p]), ⟨vs, setAt s (rowT (es ++ [p]) sz) tk⟩ :: ms) := by
  cases es with
  | nil => simp [appendC, mkOwn, rowT, AV.slc?, sized, hp, tokAt_top, varAt_top, hv, d_cons, setTok_top, hr, Option.filter] at hb ⊢; omega
  | cons e es =>
    have hlen : (rowT ((e :: es) ++ [p]) sz) = ((e :: es).length + 1, sz) := by simp [rowT]
    simp [appendC, mkOwn, rowT, AV.slc?, sized, hp, tokAt_top, varAt_top, hv, d_cons, setTok_top, hr, Option.filter] at hb ⊢
    omega
/-- An append to what may be read alone: a fresh row, if it is full. -/
theorem appendC_new {sz bytes : Nat} {ts : List AV} {vs : List (Nat × List AV)} {tk : List (Nat × Nat × Nat)} {ms : List Mem} {s : Nat} {es : List PV} {p : PV} {z : Nat}
    (hv : vs.lookup s = none) (hr : tk.lookup s = some (0, z)) (hs : sized sz es = true) (hp : p.cells.length = sz) (hb : (es.length + 1) * bytes ≤ 140737488355328) :
    appendC sz bytes ⟨ts, ⟨vs, tk⟩ :: ms⟩ (some s) (.full es) (.full [p]) = some (.own none s (es ++ [p]), ⟨vs, setAt s (es.length + 1, sz) tk⟩ :: ms) := by
  simp [appendC, AV.slc?, sized, hp, tokAt_top, varAt_top, hv, d_cons, setTok_top, hr, Option.filter]
  exact ⟨by simpa [sized] using hs, hb⟩
theorem slc_mk (s : Nat) (es : List PV) : (mkOwn s es).slc? = some es := by cases es <;> rfl
theorem leaf_mk (s : Nat) (es : List PV) : (mkOwn s es).leaf? = some (.slc es) := by cases es <;> rfl
theorem plain_mk (s : Nat) (es : List PV) : (mkOwn s es).plain = true := by cases es <;> rfl
theorem exp_mk (s : Nat) (es : List PV) (k : Nat) : (mkOwn s es).exp k = .pv (.slc es) := by cases es <;> rfl
theorem junk_mk (s : Nat) (es : List PV) : (mkOwn s es).isJunk = false := by cases es <;> rfl
theorem cells_mk (s : Nat) (es : List PV) : (mkOwn s es).cells = [mkOwn s es] := by cases es <;> rfl
theorem single_mk (s : Nat) (es : List PV) : (mkOwn s es).single = true := by cases es <;> rfl
theorem forget_mk {d : Nat} {h : Hint} {s : Nat} (hs : h.rows.contains s = false) (es : List PV) : (mkOwn s es).forget d h = mkOwn s es := by
  cases es with
  | nil => rfl
  | cons e es => simp only [mkOwn, AV.forget, hs, Bool.false_eq_true, and_false, if_false]

/-! ### numbers -/
theorem abin_int (b : BinOp) (t : TypeId) (k : IntKind) (x y : Int) : abin P b t (.pv (.int k x)) (.pv (.int k y)) = aint b k x y := by simp [abin]
theorem abin_str (b : BinOp) (t : TypeId) (x y : ByteArray) : abin P b t (.pv (.str x)) (.pv (.str y)) = astr b x y := rfl
end Go.Proofs.Ytjbmdfdgeioecaa.Am
