/- The abstract machine: operations, regions, code, functions. -/
import Derived.Test.YtjbmdfdgeioecaaAmA
import Derived.Scope
/- The abstract machine, part 12: any operation. -/
namespace Go.Proofs.Ytjbmdfdgeioecaa.Am
set_option linter.unusedVariables false
set_option linter.unusedSimpArgs false
variable {P : Program} {fl : Bool}

/-- An operation that leaves the world alone. -/
def apure (P : Program) (st : St) : Op → Option AV
  | .move x => some (st.eval x)
  | .nilCheck x => match st.eval x with
    | .ptr loc s off => some (.ptr loc s off)
    | .eptr cs => some (.eptr cs)
    | .cptr q y => some (.cptr q y)
    | .rptr loc s v off => some (.rptr loc s v off)
    | _ => none
  | .assign x => some (st.eval x)
  | .pick c a b => match st.eval c with
    | .pv (.bool t) => some (if t then st.eval a else st.eval b)
    | _ => none
  | .build t parts => abuild P t (parts.toList.map fun p => (p.1, st.eval p.2))
  | .load t x => aload P st t (st.eval x)
  | .binOp op t x y _ => abin P op t (st.eval x) (st.eval y)
  | .unOp op _ x => aun op (st.eval x)
  | .fieldAddr t x f => afield P t (st.eval x) f
  | .field t x f => afieldv P t (st.eval x) f
  | .indexAddr t x i => aindex P t (st.eval x) (st.eval i)
  | .slice t x lo hi none => aslice P t (st.eval x) (lo.map st.eval) (hi.map st.eval)
  | .slice t x lo hi (some mx) => aslice3 P t (st.eval x) (lo.map st.eval) (hi.map st.eval) (some (st.eval mx))
  | .extract x i => aextract (st.eval x) i
  | .lookup t x i ok => amapGet P st t (st.eval x) (st.eval i) ok
  | .makeFunc (.func f) first caps => some (.func f (first.toList.map st.eval) (caps.toList.map st.eval))
  | .call { callee := .builtin .len, args, argTypes } => match args.toList, argTypes.toList with
    | [x], [t] => alen P t (st.eval x)
    | _, _ => none
  | .call { callee := .builtin .min, args, argTypes } => match args.toList with
    | [x, y] => amin2 (st.eval x) (st.eval y)
    | _ => none
  | .call { callee := .builtin .max, args, argTypes } => match args.toList with
    | [x, y] => amax2 (st.eval x) (st.eval y)
    | _ => none
  | _ => none

theorem ARs.evals {G : Gh} {ow : Owner} {st : St} {a : Act} {w : World} (h : Rel G ow st a w) : ∀ xs : List Operand, ARs G st.d (xs.map st.eval) (xs.map a.eval)
  | [] => by simp [ARs]
  | x :: xs => by simp only [List.map_cons, ARs]; exact ⟨_, _, rfl, h.eval x, ARs.evals h xs⟩

theorem apure_sound {G : Gh} {ow : Owner} {st : St} {a : Act} {w : World} (h : Rel G ow st a w) {o : Oper} {y : AV} (e : apure P st o.op = some y) :
    ∃ v, (execOp a.eval o).run P w = .ok (.value v) w ∧ AR G st.d y v := by
  unfold execOp
  cases ho : o.op with
  | move x => rw [ho] at e; simp only [apure, Option.some.injEq] at e; subst e; exact ⟨_, rfl, h.eval x⟩
  | nilCheck x =>
    rw [ho] at e
    simp only [apure] at e
    have hx := h.eval x
    split at e
    · rename_i hq
      simp only [Option.some.injEq] at e
      subst e
      rw [hq] at hx
      have hx' := hx
      simp only [AR] at hx
      obtain ⟨_, b, _, hv⟩ := hx
      exact ⟨a.eval x, by simp [hv], hx'⟩
    · rename_i hq
      simp only [Option.some.injEq] at e
      subst e
      rw [hq] at hx
      have hx' := hx
      simp only [AR] at hx
      obtain ⟨b, o, hv, _⟩ := hx
      exact ⟨a.eval x, by simp [hv], hx'⟩
    · rename_i hq
      simp only [Option.some.injEq] at e
      subst e
      rw [hq] at hx
      have hx' := hx
      simp only [AR] at hx
      obtain ⟨b, u, hv, _⟩ := hx
      exact ⟨a.eval x, by simp [hv], hx'⟩
    · rename_i hq
      simp only [Option.some.injEq] at e
      subst e
      rw [hq] at hx
      have hx' := hx
      simp only [AR] at hx
      obtain ⟨_, t, b, _, _, hv, _⟩ := hx
      exact ⟨a.eval x, by simp [hv], hx'⟩
    · cases e
  | assign x => rw [ho] at e; simp only [apure, Option.some.injEq] at e; subst e; exact ⟨_, rfl, h.eval x⟩
  | pick c p q =>
    rw [ho] at e
    simp only [apure] at e
    have hc := h.eval c
    split at e
    · rename_i t ht
      rw [ht] at hc
      simp only [AR] at hc
      simp only [Option.some.injEq] at e
      subst e
      generalize hvc : a.eval c = vc at hc
      cases hc
      cases t
      · exact ⟨a.eval q, by simp [asBool, hvc], h.eval q⟩
      · exact ⟨a.eval p, by simp [asBool, hvc], h.eval p⟩
    · cases e
  | build t parts =>
    rw [ho] at e
    obtain ⟨u, h1, h2⟩ := build_sound (P := P) (f := st.eval) (g := a.eval) h.eval w e
    exact ⟨u, by simp [h1], h2⟩
  | load t x =>
    rw [ho] at e
    obtain ⟨u, h1, h2⟩ := load_sound h e
    exact ⟨u, by simp [h1], h2⟩
  | binOp op t x z t' =>
    rw [ho] at e
    obtain ⟨u, h1, h2⟩ := abin_sound (p := x) (q := z) w (h.eval x) (h.eval z) e
    exact ⟨u, by simp only [Sem.run_bind] at h1 ⊢; simp [h1], h2⟩
  | unOp op t x =>
    rw [ho] at e
    obtain ⟨u, h1, h2⟩ := aun_sound (P := P) w (h.eval x) e
    exact ⟨u, by simp [h1], h2⟩
  | fieldAddr t x f =>
    rw [ho] at e
    obtain ⟨u, h1, h2⟩ := field_sound w (h.eval x) e
    exact ⟨u, by simp [h1], h2⟩
  | field t x f =>
    rw [ho] at e
    obtain ⟨u, h1, h2⟩ := fieldv_sound w (h.eval x) e
    exact ⟨u, by simp [h1], h2⟩
  | indexAddr t x i =>
    rw [ho] at e
    obtain ⟨u, h1, h2⟩ := index_sound w (h.eval x) (h.eval i) e
    exact ⟨u, by simp [h1], h2⟩
  | extract x i =>
    rw [ho] at e
    obtain ⟨u, h1, h2⟩ := extract_sound (P := P) w (h.eval x) e
    exact ⟨u, by simp [h1], h2⟩
  | lookup t x i ok =>
    rw [ho] at e
    obtain ⟨u, h1, h2⟩ := amapGet_sound h.mem (h.eval x) (h.eval i) e
    exact ⟨u, by simp [h1], h2⟩
  | slice t x lo hi mx =>
    rw [ho] at e
    cases mx with
    | some m =>
      obtain ⟨u, h1, h2⟩ := slice3_sound (P := P) (vlo := lo.map a.eval) (vhi := hi.map a.eval) (vmx := some (a.eval m)) w (h.eval x) (by cases lo <;> simp [h.eval]) (by cases hi <;> simp [h.eval]) (h.eval m) e
      exact ⟨u, by simp [h1], h2⟩
    | none =>
      obtain ⟨u, h1, h2⟩ := slice_sound (P := P) (vlo := lo.map a.eval) (vhi := hi.map a.eval) w (h.eval x) (by cases lo <;> simp [h.eval]) (by cases hi <;> simp [h.eval]) e
      exact ⟨u, by simp [h1], h2⟩
  | makeFunc fn first caps =>
    rw [ho] at e
    cases fn with
    | func f =>
      simp only [apure, Option.some.injEq] at e
      subst e
      refine ⟨.func (.func f) (first.map a.eval) (caps.map a.eval), by simp [Instr.makeFunc], ?_⟩
      simp only [AR]
      exact ⟨_, _, rfl, by simpa using ARs.evals h first.toList, by simpa using ARs.evals h caps.toList⟩
    | _ => simp [apure] at e
  | call c =>
    rw [ho] at e
    obtain ⟨callee, args, argTypes⟩ := c
    cases callee with
    | builtin b =>
      cases b with
      | len =>
        simp only [apure] at e
        split at e
        · rename_i x t hx ht
          have hx' : args = #[x] := by apply Array.toList_inj.mp; simpa using hx
          have ht' : argTypes = #[t] := by apply Array.toList_inj.mp; simpa using ht
          subst hx'; subst ht'
          obtain ⟨u, h1, h2⟩ := len_sound (P := P) (ty := o.type) w (h.eval x) e
          exact ⟨u, by simp [resolve, invoke, builtin, h1], h2⟩
        · cases e
      | min =>
        simp only [apure] at e
        split at e
        · rename_i x z hx
          have hx' : args = #[x, z] := by apply Array.toList_inj.mp; simpa using hx
          subst hx'
          obtain ⟨u, h1, h2⟩ := min_sound (P := P) (ts := argTypes) (ty := o.type) w (h.eval x) (h.eval z) e
          exact ⟨u, by simp [resolve, invoke, builtin, h1], h2⟩
        · cases e
      | max =>
        simp only [apure] at e
        split at e
        · rename_i x z hx
          have hx' : args = #[x, z] := by apply Array.toList_inj.mp; simpa using hx
          subst hx'
          obtain ⟨u, h1, h2⟩ := max_sound (P := P) (ts := argTypes) (ty := o.type) w (h.eval x) (h.eval z) e
          exact ⟨u, by simp [resolve, invoke, builtin, h1], h2⟩
        · cases e
      | _ => simp [apure] at e
    | _ => simp [apure] at e
  | _ => rw [ho] at e; simp [apure] at e

def callable (P : Program) (f : FuncId) : Bool :=
  match P.funcs[f]? with
  | some fn => fn.name != "runtime.NumGoroutine" && fn.body.isSome
  | none => false
/-- In a region that draws its order and appends (fl): no load from a row that may be written. -/
def guardR (fl : Bool) (p : AV) (r : Option AV) : Option AV :=
  match p with
  | .rptr _ _ _ _ => if fl then none else r
  | _ => r
theorem guardR_some {fl : Bool} {p : AV} {r : Option AV} {y : AV} (h : guardR fl p r = some y) : r = some y := by
  unfold guardR at h
  split at h
  · split at h
    · cases h
    · exact h
  · exact h
/-- One operation: its value, the memories behind it. -/
def aop (P : Program) (call : ACall) (fl : Bool) (o : Oper) (st : St) : Option (AV × List Mem) :=
  match o.op with
  | .alloc t => match o.dst, P.info? t with
    | some s, some i => match i.zero with
      | some z => anew st s (z.cells.toList.map ofVal)
      | none => none
    | _, _ => none
  | .box _ x => match o.dst with
    | some s => if (st.eval x).isJunk = false then anew st s (st.eval x).cells else none
    | none => none
  | .buildSlice t n parts => (abuildSlice P t n (parts.toList.map fun p => (p.1, st.eval p.2))).map fun y => (y, st.mems)
  | .load t x => (guardR fl (st.eval x) (aload P st t (st.eval x))).map fun y => (y, st.mems)
  | .store t p x => astore P st t (st.eval p) (st.eval x)
  | .makeSlice t x y => amake P st o.dst t (st.eval x) (st.eval y)
  | .makeMap _ none => match o.dst with
    | some s => amapNew st s
    | none => none
  | .mapUpdate t m k x => amapSet P st t (st.eval m) (st.eval k) (st.eval x)
  | .insert t m k x => amapSet P st t (st.eval m) (st.eval k) (st.eval x)
  | .call { callee := .builtin .append, args, argTypes } => match args.toList, argTypes.toList with
    | [x, y], [t, t'] => aappend P st o.dst t t' (st.eval x) (st.eval y)
    | _, _ => none
  | .call { callee := .value f, args, .. } => match st.eval f with
    | .func fid first caps =>
      if callable P fid = true then
        if plains (first ++ args.toList.map st.eval ++ caps) = true then
          match call fid (exps 0 (first ++ args.toList.map st.eval ++ caps)) [] with
          | some (r, []) => some (r, st.mems)
          | _ => none
        else if st.mems.isEmpty = true then none else call fid (relocs st.d (first ++ args.toList.map st.eval ++ caps)) st.mems
      else none
    | _ => none
  | op => (apure P st op).map fun y => (y, st.mems)

theorem run_callFunc {f : FuncId} {args : Array Value} {w : World} (h : callable P f = true) : (callFunc f args).run P w = .ok (.enter f args) w := by
  unfold callable at h
  cases hf : P.funcs[f]? with
  | none => simp [hf] at h
  | some fn =>
    simp only [hf, Bool.and_eq_true, bne_iff_ne, ne_eq] at h
    have hb : fn.body ≠ none := by intro hq; rw [hq] at h; simp at h
    simp [callFunc, hf, h.1, hb]
end Go.Proofs.Ytjbmdfdgeioecaa.Am
/- The abstract machine, part 13: any operation is sound. -/
namespace Go.Proofs.Ytjbmdfdgeioecaa.Am
set_option linter.unusedVariables false
set_option linter.unusedSimpArgs false
variable {P : Program} {fl : Bool}

theorem Rel.step {G G' : Gh} {ow ow' : Owner} {st : St} {a : Act} {w w' : World} {ms' : List Mem} (h : Rel G ow st a w) (hle : G.le G') (hr : RM G' ow' ms' w') (hl : ms'.length = st.mems.length) :
    Rel G' ow' { st with mems := ms' } a w' := by
  refine ⟨?_, h.defers, hr⟩
  have : ({ st with mems := ms' } : St).d = st.d := by simp [St.d, hl]
  rw [this]
  exact h.tmps.mono hle

theorem wp_value {o : Oper} {a : Act} {w w' : World} {v : Value} {next : Act → World → Prop} {Q : Exit → Act → World → Prop} (h : (execOp a.eval o).run P w = .ok (.value v) w') (hn : next (a.put o.dst v) w') : o.wp P a w next Q := by
  unfold Oper.wp
  rw [h]
  exact hn
theorem wp_skipped {o : Oper} {a : Act} {w w' : World} {next : Act → World → Prop} {Q : Exit → Act → World → Prop} (h : (execOp a.eval o).run P w = .ok .skip w') (hn : next (a.put o.dst undef) w') : o.wp P a w next Q := by
  unfold Oper.wp
  rw [h]
  exact hn
theorem wp_entered {o : Oper} {a : Act} {w w' : World} {f : FuncId} {args : Array Value} {next : Act → World → Prop} {Q : Exit → Act → World → Prop} (h : (execOp a.eval o).run P w = .ok (.enter f args) w')
    (hn : Calls P f args w' fun e w'' => ∃ v, e = .returned v ∧ next (a.put o.dst v) w'') : o.wp P a w next Q := by
  unfold Oper.wp
  rw [h]
  exact hn.mono fun e w'' ⟨v, he, hv⟩ => by subst he; exact hv

mutual
theorem AR.plain {G : Gh} {d : Nat} : ∀ {x : AV} {v : Value}, AR G d x v → x.plain = true → ∀ d', AR G.bare d' (x.exp 0) v
  | .pv p, v, r, _, d' => by simpa only [AV.exp, AR, Gh.bare] using r
  | .full es, v, r, _, d' => by simp only [AV.exp, AR, Gh.bare] at r ⊢; exact r.1
  | .own none s es, v, r, _, d' => by simp only [AV.exp, AR, Gh.bare] at r ⊢; exact r.2.1
  | .own (some e) s es, v, r, _, d' => by simp only [AV.exp, Nat.not_lt_zero, if_false, AR, Gh.bare] at r ⊢; exact r.2.1
  | .agg cs, v, r, hp, d' => by
    simp only [AV.plain] at hp
    simp only [AV.exp, AR] at r ⊢
    obtain ⟨vs, e, r⟩ := r
    exact ⟨vs, e, ARs.plains r hp d'⟩
  | .tup cs, v, r, hp, d' => by
    simp only [AV.plain] at hp
    simp only [AV.exp, AR] at r ⊢
    obtain ⟨vs, e, r⟩ := r
    exact ⟨vs, e, ARs.plains r hp d'⟩
  | .ptr loc s off, v, r, hp, d' => by simp [AV.plain] at hp
  | .mref loc s, v, r, hp, d' => by simp [AV.plain] at hp
  | .row _ _ _ _, v, r, hp, d' => by simp [AV.plain] at hp
  | .rptr _ _ _ _, v, r, hp, d' => by simp [AV.plain] at hp
  | .mrw _ _ _, v, r, hp, d' => by simp only [AR] at r
  | .prow cs, v, r, hp, d' => by
    simp only [AV.plain] at hp
    simp only [AV.exp, AR] at r ⊢
    obtain ⟨b, vs, e, r1, r2⟩ := r
    have r1' := ARs.plains r1 hp d'
    have hl := r1'.length
    have hl' := r1.length
    exact ⟨b, vs, by rw [hl, ← hl']; exact e, r1', r2⟩
  | .cptr q x, v, r, hp, d' => by
    simp only [AV.plain] at hp
    simp only [AV.exp, AR] at r ⊢
    obtain ⟨b, u, e, hu, r1⟩ := r
    exact ⟨b, u, e, hu, AR.plain r1 hp d'⟩
  | .ments ks xs, v, r, hp, d' => by simp only [AR] at r
  | .eptr cs, v, r, _, d' => by simpa only [AV.exp, AR, Gh.bare] using r
  | .func f first caps, v, r, hp, d' => by
    simp only [AV.plain, Bool.and_eq_true] at hp
    simp only [AV.exp, AR] at r ⊢
    obtain ⟨us, vs, e, r1, r2⟩ := r
    exact ⟨us, vs, e, ARs.plains r1 hp.1 d', ARs.plains r2 hp.2 d'⟩
  | .junk, v, r, _, d' => by simp only [AV.exp, AR]
theorem ARs.plains {G : Gh} {d : Nat} : ∀ {xs : List AV} {vs : List Value}, ARs G d xs vs → plains xs = true → ∀ d', ARs G.bare d' (exps 0 xs) vs
  | [], vs, r, _, d' => by simpa only [Am.exps, ARs] using r
  | c :: cs, vs, r, hp, d' => by
    simp only [Am.plains, Bool.and_eq_true] at hp
    simp only [Am.exps, ARs] at r ⊢
    obtain ⟨u, us, e, r1, r2⟩ := r
    exact ⟨u, us, e, AR.plain r1 hp.1 d', ARs.plains r2 hp.2 d'⟩
end

/-- The callee's world without the callers' memory. -/
theorem RM.bare {G : Gh} {ow : Owner} {ms : List Mem} {w : World} (h : RM G ow ms w) : RM G.bare (fun _ => none) [] w := by
  refine ⟨h.prot, fun d s cs hv hnr => ?_, fun d s n z ht => ?_, fun d s b hb => ?_, fun d s t ht => ?_, fun b x hb => ?_, fun d s ver z cs hv => ?_, fun d s t ht => ?_, h.glob⟩
  · simp [varAt, memAt] at hv
  · simp [tokAt, memAt] at ht
  · cases hb
  · cases ht
  · cases hb
  · simp [varAt, memAt] at hv
  · cases ht
/-- .. and the callers' memory behind it. -/
theorem RM.back {G G' : Gh} {ow ow' : Owner} {ms : List Mem} {w w' : World} (h : RM G ow ms w) (hr : RM G' ow' [] w') (hf : Fr G.bare G' (fun _ => none) ow' w w') (hle : G.bare.le G') :
    RM { G with M := G'.M } ow ms w' ∧ G.le { G with M := G'.M } ∧ Fr G { G with M := G'.M } ow ow w w' := by
  have hg : G.le { G with M := G'.M } := ⟨hle.M, fun _ _ _ h => h, fun _ _ t h => ⟨t, h, t.le_refl⟩, fun _ _ t h => ⟨t, h, t.le_refl⟩⟩
  refine ⟨⟨hr.prot, fun d s cs hv hnr => ?_, fun d s n z ht => ?_, h.φsome, h.τsome, fun b x hb => Nat.lt_of_lt_of_le (h.owlt b x hb) hf.size, fun d s ver z cs hv => (h.row d s ver z cs hv).keep hg rfl fun b hb _ => ⟨hf.same b hb rfl, rfl, fun o => hf.M b hb rfl o⟩, h.ρsome, hr.glob⟩, hg, ⟨hf.size, fun b hb _ => hf.same b hb rfl, fun b hb _ o => hf.M b hb rfl o, fun _ _ h => h, hf.env⟩⟩
  · obtain ⟨b, ob, h1, h2, h3, h4, h5⟩ := h.var d s cs hv hnr
    have hb := heap_lt h3
    exact ⟨b, ob, h1, h2, by rw [hf.same b hb rfl]; exact h3, h4.mono hg, fun o => by show G'.M b o = none; rw [hf.M b hb rfl o]; exact h5 o⟩
  · obtain ⟨t, h1, h2, h3, h4, h5⟩ := h.tok d s n z ht
    refine ⟨t, h1, h2, h3, h4, fun hlt => ?_⟩
    obtain ⟨b, vs, e, g1, g2, g3, g4, g5⟩ := h5 hlt
    have hb := heap_lt g3
    exact ⟨b, vs, e, g1, g2, by rw [hf.same b hb rfl]; exact g3, g4, fun o ho => by show G'.M b o = none; rw [hf.M b hb rfl o]; exact g5 o ho⟩

mutual
theorem closed_reloc {G : Gh} {d k : Nat} (hk : d < k) : ∀ {x : AV} {v : Value}, AR G d x v → (x.reloc d).closed k = true
  | .pv p, v, r => by simp [AV.reloc, AV.closed]
  | .full es, v, r => by simp [AV.reloc, AV.closed]
  | .own none s es, v, r => by simp [AV.reloc, AV.closed, hk]
  | .own (some e) s es, v, r => by
    simp only [AR, Option.getD_some] at r
    have := r.1
    simp [AV.reloc, AV.closed]; omega
  | .agg cs, v, r => by
    simp only [AR] at r
    obtain ⟨vs, _, r⟩ := r
    simp [AV.reloc, AV.closed, closeds_relocs hk r]
  | .tup cs, v, r => by
    simp only [AR] at r
    obtain ⟨vs, _, r⟩ := r
    simp [AV.reloc, AV.closed, closeds_relocs hk r]
  | .ptr none s off, v, r => by simp [AV.reloc, AV.closed, hk]
  | .ptr (some e) s off, v, r => by
    simp only [AR, Option.getD_some] at r
    have := r.1
    simp [AV.reloc, AV.closed]; omega
  | .mref none s, v, r => by simp [AV.reloc, AV.closed, hk]
  | .mref (some e) s, v, r => by
    simp only [AR, Option.getD_some] at r
    have := r.1
    simp [AV.reloc, AV.closed]; omega
  | .ments ks xs, v, r => by simp only [AR] at r
  | .mrw _ _ _, v, r => by simp only [AR] at r
  | .row none s _ _, v, r => by simp [AV.reloc, AV.closed, hk]
  | .row (some e) s _ _, v, r => by
    simp only [AR, Option.getD_some] at r
    have := r.1
    simp [AV.reloc, AV.closed]; omega
  | .rptr none s _ _, v, r => by simp [AV.reloc, AV.closed, hk]
  | .rptr (some e) s _ _, v, r => by
    simp only [AR, Option.getD_some] at r
    have := r.1
    simp [AV.reloc, AV.closed]; omega
  | .prow es, v, r => by
    simp only [AR] at r
    obtain ⟨_, vs, _, r, _⟩ := r
    simp [AV.reloc, AV.closed, closeds_relocs hk r]
  | .cptr q x, v, r => by
    simp only [AR] at r
    obtain ⟨_, _, _, _, r⟩ := r
    simp [AV.reloc, AV.closed, closed_reloc hk r]
  | .eptr cs, v, r => by simp [AV.reloc, AV.closed]
  | .func f a b, v, r => by
    simp only [AR] at r
    obtain ⟨us, vs, _, r1, r2⟩ := r
    simp [AV.reloc, AV.closed, closeds_relocs hk r1, closeds_relocs hk r2]
  | .junk, v, r => by simp [AV.reloc, AV.closed]
theorem closeds_relocs {G : Gh} {d k : Nat} (hk : d < k) : ∀ {xs : List AV} {vs : List Value}, ARs G d xs vs → closeds k (relocs d xs) = true
  | [], vs, r => by simp [relocs, closeds]
  | c :: cs, vs, r => by
    simp only [ARs] at r
    obtain ⟨u, us, _, r1, r2⟩ := r
    simp [relocs, closeds, closed_reloc hk r1, closeds_relocs hk r2]
end

theorem op_sound {call : ACall} (hcall : CallOK P call) {G : Gh} {ow : Owner} {st : St} {a : Act} {w : World} (h : Rel G ow st a w) {o : Oper} {y : AV} {ms' : List Mem} (hne : st.mems ≠ []) (e : aop P call fl o st = some (y, ms'))
    {next : Act → World → Prop} {Q : Exit → Act → World → Prop}
    (hn : ∀ G' ow' w' v, G.le G' → Fr G G' ow ow' w w' → Rel G' ow' { st with mems := ms' } a w' → ms'.length = st.mems.length → AR G' st.d y v → next (a.put o.dst v) w') : o.wp P a w next Q := by
  unfold aop at e
  split at e
  · -- alloc
    rename_i t ho
    split at e
    · rename_i s i hd hi
      split at e
      · rename_i z hz
        obtain ⟨G', ow', g1, g2, g3, g4, g5⟩ := anew_sound h.mem t (ofVals_sound G st.d z.cells.toList) e
        refine wp_value (v := .pointer (some ⟨w.heap.size, 0, none⟩)) (w' := pushed w (.cells z.cells t (0, 0))) ?_ (hn G' ow' _ _ g1 g2 (h.step g1 g3 g4) g4 g5)
        unfold execOp
        rw [ho]
        simp [Instr.alloc, zeroValue, typeInfo, hi, hz, newVar, newRow, pushed]
      · cases e
    · cases e
  · -- box
    rename_i t x ho
    split at e
    · rename_i s hd
      split at e
      · rename_i hj
        have hx := AR.cells (h.eval x) (by intro e; rw [e] at hj; simp [AV.isJunk] at hj)
        obtain ⟨G', ow', g1, g2, g3, g4, g5⟩ := anew_sound h.mem t hx e
        refine wp_value (v := .pointer (some ⟨w.heap.size, 0, none⟩)) (w' := pushed w (.cells (a.eval x).cells t (0, 0))) ?_ (hn G' ow' _ _ g1 g2 (h.step g1 g3 g4) g4 g5)
        unfold execOp
        rw [ho]
        simp [Instr.box, newVar, newRow, pushed]
      · cases e
    · cases e
  · -- buildSlice
    rename_i t n parts ho
    simp only [Option.map_eq_some_iff, Prod.mk.injEq] at e
    obtain ⟨y', hy, rfl, rfl⟩ := e
    obtain ⟨u, w', G', g1, g2, g3, g4, g5⟩ := buildSlice_sound (P := P) (d := st.d) h.mem h.eval hy
    refine wp_value (v := u) (w' := w') ?_ (hn G' ow _ _ g2 g4 (h.step g2 g3 rfl) rfl g5)
    unfold execOp
    rw [ho]
    simp [g1]
  · -- load
    rename_i t x ho
    simp only [Option.map_eq_some_iff, Prod.mk.injEq] at e
    obtain ⟨y', hy, rfl, rfl⟩ := e
    obtain ⟨u, g1, g2⟩ := load_sound h (guardR_some hy)
    refine wp_value (v := u) (w' := w) ?_ (hn G ow w u (Gh.le_refl G) (Fr.refl G ow w) h rfl g2)
    unfold execOp
    rw [ho]
    simp [g1]
  · -- store
    rename_i t p x ho
    obtain ⟨w', g1, g2, g3, g4, rfl⟩ := astore_sound h.mem (h.eval p) (h.eval x) e
    refine wp_skipped (w' := w') ?_ (hn G ow _ _ (Gh.le_refl G) g2 (h.step (Gh.le_refl G) g3 g4) g4 (by simp only [AR]))
    unfold execOp
    rw [ho]
    simp [g1]
  · -- makeSlice
    rename_i t x z ho
    obtain ⟨r, w', G', ow', g1, g2, g3, g4, g5, g6⟩ := amake_sound (P := P) h.mem (h.eval x) (h.eval z) e
    refine wp_value (v := r) (w' := w') ?_ (hn G' ow' _ _ g2 g3 (h.step g2 g4 g5) g5 g6)
    unfold execOp
    rw [ho]
    simp [g1]
  · -- makeMap
    rename_i t ho
    split at e
    · rename_i s hd
      obtain ⟨G', ow', g1, g2, g3, g4, g5⟩ := amapNew_sound h.mem e
      refine wp_value (v := .map (some w.heap.size)) (w' := pushed w (.map #[] 0)) ?_ (hn G' ow' _ _ g1 g2 (h.step g1 g3 g4) g4 g5)
      unfold execOp
      rw [ho]
      rfl
    · cases e
  · -- mapUpdate
    rename_i t m k x ho
    obtain ⟨w', g1, g2, g3, g4, rfl⟩ := amapSet_sound h.mem (h.eval m) (h.eval k) (h.eval x) e
    refine wp_skipped (w' := w') ?_ (hn G ow _ _ (Gh.le_refl G) g2 (h.step (Gh.le_refl G) g3 g4) g4 (by simp only [AR]))
    unfold execOp
    rw [ho]
    simp [g1]
  · -- insert
    rename_i t m k x ho
    obtain ⟨w', g1, g2, g3, g4, rfl⟩ := amapSet_sound h.mem (h.eval m) (h.eval k) (h.eval x) e
    refine wp_skipped (w' := w') ?_ (hn G ow _ _ (Gh.le_refl G) g2 (h.step (Gh.le_refl G) g3 g4) g4 (by simp only [AR]))
    unfold execOp
    rw [ho]
    simp [g1]
  · -- append
    rename_i args argTypes ho
    split at e
    · rename_i x z t t' hx ht
      have hx' : args = #[x, z] := by apply Array.toList_inj.mp; simpa using hx
      have ht' : argTypes = #[t, t'] := by apply Array.toList_inj.mp; simpa using ht
      subst hx'; subst ht'
      obtain ⟨r, w', G', ow', g1, g2, g3, g4, g5, g6⟩ := aappend_sound (P := P) (ty := o.type) h.mem (h.eval x) (h.eval z) e
      refine wp_value (v := r) (w' := w') ?_ (hn G' ow' _ _ g2 g3 (h.step g2 g4 g5) g5 g6)
      unfold execOp
      rw [ho]
      simp [resolve, invoke, builtin, g1]
    · cases e
  · -- a call
    rename_i f args argTypes ho
    split at e
    · rename_i fid first caps hf
      split at e
      · rename_i hcb
        have h0 := h.eval f
        rw [hf] at h0
        simp only [AR] at h0
        obtain ⟨us, vs, hv, r1, r2⟩ := h0
        have hargs : ARs G st.d (first ++ args.toList.map st.eval ++ caps) (us.toList ++ args.toList.map a.eval ++ vs.toList) := (r1.append (ARs.evals h _)).append r2
        have harr : (us.toList ++ args.toList.map a.eval ++ vs.toList).toArray = us ++ args.map a.eval ++ vs := by
          apply Array.toList_inj.mp; simp
        have hrun : (execOp a.eval o).run P w = .ok (.enter fid (us ++ args.map a.eval ++ vs)) w := by
          unfold execOp
          rw [ho]
          simp only [resolve, hv, Deferred.ofValue, Sem.run_bind, Sem.run_pure, Result.andThen_ok, invoke, run_callFunc hcb]
        refine wp_entered hrun ?_
        rw [← harr]
        split at e
        · rename_i hp
          split at e
          · rename_i r hc
            simp only [Option.some.injEq, Prod.mk.injEq] at e
            obtain ⟨rfl, rfl⟩ := e
            refine (hcall _ _ _ _ _ hc G.bare (fun _ => none) w _ h.mem.bare (fun d _ => ARs.plains hargs hp d) (closeds_exp 0 _)).mono ?_
            rintro ev w' ⟨v, G', ow', rfl, g1, g2, g3, _, g5, g6⟩
            obtain ⟨k1, k2, k3⟩ := h.mem.back g3 g2 g1
            refine ⟨v, rfl, hn _ _ _ v k2 k3 (h.step k2 k1 rfl) rfl ?_⟩
            exact AR.closed (k := 0) (G := G') (G' := { G with M := G'.M }) ⟨Prot.le_refl _, fun _ _ _ h => absurd h (Nat.not_lt_zero _), fun _ _ _ h => absurd h (Nat.not_lt_zero _), fun _ _ _ h => absurd h (Nat.not_lt_zero _)⟩ (Nat.zero_le _) (g5 0 (by simp)) g6
          · cases e
        · have hd : st.d + 1 = st.mems.length := by
            have : 0 < st.mems.length := List.length_pos_iff.mpr hne
            simp only [St.d]; omega
          rw [if_neg (by simpa using hne)] at e
          refine (hcall _ _ _ _ _ e G ow w _ h.mem (fun d hd' => ARs.relocs (by omega) hargs) (closeds_relocs (by omega) hargs)).mono ?_
          rintro ev w' ⟨v, G', ow', rfl, g1, g2, g3, g4, g5, g6⟩
          exact ⟨v, rfl, hn _ _ _ v g1 g2 (h.step g1 g3 g4) g4 (g5 _ (by omega))⟩
      · cases e
    · cases e
  · -- the others
    simp only [Option.map_eq_some_iff, Prod.mk.injEq] at e
    obtain ⟨y', hy, rfl, rfl⟩ := e
    obtain ⟨v, g1, g2⟩ := apure_sound h hy
    exact wp_value g1 (hn G ow w v (Gh.le_refl G) (Fr.refl G ow w) h rfl g2)
end Go.Proofs.Ytjbmdfdgeioecaa.Am
/- The abstract machine, part 14: regions in the order of the text. -/
namespace Go.Proofs.Ytjbmdfdgeioecaa.Am
set_option linter.unusedVariables false
set_option linter.unusedSimpArgs false
variable {P : Program} {fl : Bool}

/-- What a walk leads to. -/
def Tr (G : Gh) (ow : Owner) (w : World) (n : Nat) (st' : St) (a' : Act) (w' : World) : Prop :=
  ∃ G' ow', G.le G' ∧ Fr G G' ow ow' w w' ∧ Rel G' ow' st' a' w' ∧ st'.mems.length = n

/-- One operation of a region: passed over, or carried out. -/
def astep (P : Program) (call : ACall) (fl : Bool) (ops : Array Oper) (o : Oper) (st : St) : Option St :=
  match o.guard with
  | none => (aop P call fl o st).map fun q => ({ st with mems := q.2 }).put o.dst q.1
  | some (j, want) =>
    match ((ops[j]?).bind (·.dst)).bind (st.tmps[·]?) with
    | some (.pv (.bool b)) => if b = want then (aop P call fl o st).map fun q => ({ st with mems := q.2 }).put o.dst q.1 else some (st.put o.dst (.tup []))
    | some (.tup []) => some (st.put o.dst (.tup []))
    | _ => none
def asteps (P : Program) (call : ACall) (fl : Bool) (ops : Array Oper) : List Oper → St → Option St
  | [], st => some st
  | o :: rest, st => (astep P call fl ops o st).bind (asteps P call fl ops rest)

theorem put_mems (st : St) (dst : Option Tmp) (x : AV) : (st.put dst x).mems = st.mems := by cases dst <;> rfl
theorem put_d (st : St) (dst : Option Tmp) (x : AV) : (st.put dst x).d = st.d := by simp [St.d, put_mems]

theorem AR.undef {G : Gh} {d : Nat} : AR G d (.tup []) undef := by
  simp only [AR, Go.undef]
  exact ⟨#[], rfl, by simp [ARs]⟩
theorem astep_sound {call : ACall} (hcall : CallOK P call) {G : Gh} {ow : Owner} {st st' : St} {a : Act} {w : World} (h : Rel G ow st a w) (hne : st.mems ≠ []) {ops : Array Oper} {o : Oper}
    (e : astep P call fl ops o st = some st') {K : Act → World → Prop} {Q : Exit → Act → World → Prop} (hn : ∀ a' w', Tr G ow w st.mems.length st' a' w' → K a' w') :
    if Region.wanted o (yielded ops a.tmps) then o.wp P a w K Q else K (a.put o.dst undef) w := by
  have run : ∀ st', (aop P call fl o st).map (fun q => ({ st with mems := q.2 } : St).put o.dst q.1) = some st' → (∀ a' w', Tr G ow w st.mems.length st' a' w' → K a' w') → o.wp P a w K Q := by
    intro st' e hn
    simp only [Option.map_eq_some_iff] at e
    obtain ⟨⟨y, ms'⟩, he, rfl⟩ := e
    refine op_sound hcall h hne he fun G' ow' w' v g1 g2 g3 g4 g5 => hn _ _ ⟨G', ow', g1, g2, ?_, by rw [put_mems]; exact g4⟩
    refine Rel.put g3 o.dst ?_
    have : ({ st with mems := ms' } : St).d = st.d := by simp [St.d, g4]
    rw [this]
    exact g5
  unfold astep at e
  cases hg : o.guard with
  | none =>
    simp only [hg] at e
    have hw : Region.wanted o (yielded ops a.tmps) = true := by simp [Region.wanted, hg]
    rw [if_pos hw]
    exact run st' e hn
  | some q =>
    obtain ⟨j, want⟩ := q
    simp only [hg] at e
    split at e
    · rename_i b hb
      simp only [Option.bind_eq_some_iff] at hb
      obtain ⟨d, hd, ht⟩ := hb
      obtain ⟨v, hv, r⟩ := h.tmps.get ht
      simp only [AR] at r
      cases r
      have hv' : a.tmps[d]? = some (.bool b) := by simpa [Array.getElem?_toList] using hv
      have hy : yielded ops a.tmps j = some b := by
        simp only [yielded]
        obtain ⟨oo, h1, h2⟩ := hd
        simp [h1, h2, hv']
      split at e
      · rename_i hbw
        subst hbw
        have hw : Region.wanted o (yielded ops a.tmps) = true := by simp [Region.wanted, hg, hy]
        rw [if_pos hw]
        exact run st' e hn
      · rename_i hbw
        simp only [Option.some.injEq] at e
        subst e
        have hw : ¬ Region.wanted o (yielded ops a.tmps) = true := by simpa [Region.wanted, hg, hy] using hbw
        rw [if_neg hw]
        exact hn _ _ ⟨G, ow, Gh.le_refl G, Fr.refl G ow w, h.put o.dst AR.undef, by rw [put_mems]⟩
    · rename_i hb
      simp only [Option.bind_eq_some_iff] at hb
      obtain ⟨d, hd, ht⟩ := hb
      obtain ⟨v, hv, r⟩ := h.tmps.get ht
      simp only [AR] at r
      obtain ⟨vs, rfl, _⟩ := r
      have hv' : a.tmps[d]? = some (.tuple vs) := by simpa [Array.getElem?_toList] using hv
      have hy : yielded ops a.tmps j = none := by
        simp only [yielded]
        obtain ⟨oo, h1, h2⟩ := hd
        simp [h1, h2, hv']
      simp only [Option.some.injEq] at e
      subst e
      have hw : ¬ Region.wanted o (yielded ops a.tmps) = true := by simp [Region.wanted, hg, hy]
      rw [if_neg hw]
      exact hn _ _ ⟨G, ow, Gh.le_refl G, Fr.refl G ow w, h.put o.dst AR.undef, by rw [put_mems]⟩
    · cases e

theorem Tr.trans {G : Gh} {ow : Owner} {w : World} {n : Nat} {st1 st2 : St} {a1 a2 : Act} {w1 w2 : World} {G1 : Gh} {ow1 : Owner} (hle : G.le G1) (hf : Fr G G1 ow ow1 w w1) (h : Tr G1 ow1 w1 n st2 a2 w2) : Tr G ow w n st2 a2 w2 := by
  obtain ⟨G2, ow2, g1, g2, g3, g4⟩ := h
  exact ⟨G2, ow2, Gh.le_trans hle g1, hf.trans g2, g3, g4⟩

theorem asteps_sound {call : ACall} (hcall : CallOK P call) {ops : Array Oper} {Q : Exit → Act → World → Prop} : ∀ (l : List Oper) {G : Gh} {ow : Owner} {st st' : St} {a : Act} {w : World}, Rel G ow st a w → st.mems ≠ [] →
    asteps P call fl ops l st = some st' → (∀ a' w', Tr G ow w st.mems.length st' a' w' → Q .normal a' w') → wpList P ops Q l a w
  | [], G, ow, st, st', a, w, h, hne, e, hn => by
    simp only [asteps, Option.some.injEq] at e
    subst e
    exact hn _ _ ⟨G, ow, Gh.le_refl G, Fr.refl G ow w, h, rfl⟩
  | o :: rest, G, ow, st, st', a, w, h, hne, e, hn => by
    simp only [asteps, Option.bind_eq_some_iff] at e
    obtain ⟨st1, e1, e2⟩ := e
    have := astep_sound (Q := Q) hcall h hne e1 (K := wpList P ops Q rest) fun a' w' ⟨G1, ow1, g1, g2, g3, g4⟩ =>
      asteps_sound hcall rest g3 (by intro hq; rw [hq] at g4; exact hne (List.eq_nil_of_length_eq_zero g4.symm)) e2 fun a2 w2 ht => hn a2 w2 (Tr.trans (st1 := st1) (a1 := a') g1 g2 (by rw [g4] at ht; exact ht))
    simp only [wpList]
    split at this
    · rename_i hw; rw [if_pos hw]; exact .inl this
    · rename_i hw; rw [if_neg hw]; exact this
end Go.Proofs.Ytjbmdfdgeioecaa.Am
/- The abstract machine, part 15: regions that draw their order. -/
namespace Go.Proofs.Ytjbmdfdgeioecaa.Am
set_option linter.unusedVariables false
set_option linter.unusedSimpArgs false
variable {P : Program} {fl : Bool}

/-- A run over a list of operations' numbers. -/
def arun (P : Program) (call : ACall) (fl : Bool) (ops : Array Oper) : List Nat → St → Option St
  | [], st => some st
  | i :: rest, st => match ops[i]? with
    | some o => (astep P call fl ops o st).bind (arun P call fl ops rest)
    | none => arun P call fl ops rest st

/-- One before the other, or the other before the one. -/
def Comm (P : Program) (call : ACall) (fl : Bool) (ops : Array Oper) (x y : Oper) : Prop :=
  ∀ st s1 s2, astep P call fl ops x st = some s1 → astep P call fl ops y s1 = some s2 → ∃ s1', astep P call fl ops y st = some s1' ∧ astep P call fl ops x s1' = some s2

theorem arun_first {call : ACall} {ops : Array Oper} {i : Nat} {o : Oper} (hi : ops[i]? = some o) : ∀ (pre post : List Nat) {st sF : St},
    (∀ j ∈ pre, ∀ oj, ops[j]? = some oj → Comm P call fl ops oj o) → arun P call fl ops (pre ++ i :: post) st = some sF →
    ∃ s1, astep P call fl ops o st = some s1 ∧ arun P call fl ops (pre ++ post) s1 = some sF
  | [], post, st, sF, _, e => by
    simp only [List.nil_append, arun, hi, Option.bind_eq_some_iff] at e
    simpa using e
  | j :: pre, post, st, sF, hc, e => by
    simp only [List.cons_append, arun] at e ⊢
    cases hj : ops[j]? with
    | none =>
      simp only [hj] at e ⊢
      exact arun_first hi pre post (fun k hk => hc k (by simp [hk])) e
    | some oj =>
      simp only [hj, Option.bind_eq_some_iff] at e ⊢
      obtain ⟨s0, h0, e⟩ := e
      obtain ⟨s1, h1, h2⟩ := arun_first hi pre post (fun k hk => hc k (by simp [hk])) e
      obtain ⟨s1', h3, h4⟩ := hc j (by simp) oj hj st s0 s1 h0 h1
      exact ⟨s1', h3, s1, h4, h2⟩

/-- The numbers that have not come up. -/
def unl (ops : Array Oper) (listed : Array Bool) : List Nat := (List.range ops.size).filter fun i => !listed.getD i true
theorem ready_unl {ops : Array Oper} {listed : Array Bool} {i : Nat} (h : i ∈ Region.ready .any ops listed) :
    i ∈ unl ops listed ∧ ∃ o, ops[i]? = some o ∧ ∀ e ∈ o.after, Region.binds .any e = true → listed.getD e.on false = true := by
  simp only [Region.ready, List.mem_filter, Bool.and_eq_true] at h
  obtain ⟨h1, h2, h3⟩ := h
  refine ⟨by simp only [unl, List.mem_filter]; exact ⟨h1, h2⟩, ?_⟩
  cases ho : ops[i]? with
  | none => simp [ho] at h3
  | some o =>
    refine ⟨o, rfl, fun e he hb => ?_⟩
    simp only [ho, Option.map_some, Option.getD_some, Array.all_eq_true_iff_forall_mem] at h3
    have := h3 e he
    simpa [hb] using this

theorem unl_set {ops : Array Oper} {listed : Array Bool} {i : Nat} {pre post : List Nat} (hs : listed.size = ops.size) (h : unl ops listed = pre ++ i :: post) : unl ops (listed.setIfInBounds i true) = pre ++ post := by
  have hnd : (unl ops listed).Nodup := List.Pairwise.filter _ List.nodup_range
  have hi : i < ops.size := by
    have : i ∈ unl ops listed := by rw [h]; simp
    simp only [unl, List.mem_filter, List.mem_range] at this
    exact this.1
  have h1 : unl ops (listed.setIfInBounds i true) = (unl ops listed).filter fun j => decide (j ≠ i) := by
    simp only [unl, List.filter_filter]
    apply List.filter_congr
    intro j hj
    by_cases hji : j = i
    · subst hji
      simp [Array.getD_eq_getD_getElem?, hs, hi]
    · simp [Array.getD_eq_getD_getElem?, Array.getElem?_setIfInBounds, Ne.symm hji, hji]
  rw [h1, h]
  rw [h] at hnd
  rw [List.nodup_append] at hnd
  obtain ⟨n1, n2, n3⟩ := hnd
  rw [List.nodup_cons] at n2
  rw [List.filter_append, List.filter_cons]
  simp only [ne_eq, not_true_eq_false, decide_false, Bool.false_eq_true, if_false]
  rw [List.filter_eq_self.mpr, List.filter_eq_self.mpr]
  · intro j hj; simp only [decide_not, Bool.not_eq_true', decide_eq_false_iff_not]; intro e; subst e; exact n2.1 hj
  · intro j hj; simp only [decide_not, Bool.not_eq_true', decide_eq_false_iff_not]; intro e; exact n3 j hj i (by simp) e

/-- What is listed is listed behind what it waits for. -/
def Down (ops : Array Oper) (listed : Array Bool) : Prop :=
  ∀ (i : Nat) (o : Oper), ops[i]? = some o → listed.getD i true = true → ∀ e ∈ o.after, Region.binds .any e = true → listed.getD e.on false = true

theorem any_sound {call : ACall} (hcall : CallOK P call) {ops : Array Oper} {Q : Exit → Act → World → Prop}
    (hdep : ∀ (i : Nat) (o : Oper), ops[i]? = some o → ∀ e ∈ o.after, Region.binds .any e = true → e.on < i)
    (hcomm : ∀ (listed : Array Bool) (i j : Nat) (o oj : Oper), Down ops listed → i ∈ Region.ready .any ops listed → ops[i]? = some o → j ∈ unl ops listed → j < i → ops[j]? = some oj → Comm P call fl ops oj o) :
    ∀ (fuel : Nat) (listed : Array Bool) {G : Gh} {ow : Owner} {st sF : St} {a : Act} {w : World}, listed.size = ops.size → Down ops listed → (unl ops listed).length ≤ fuel → Rel G ow st a w → st.mems ≠ [] →
      arun P call fl ops (unl ops listed) st = some sF → (∀ a' w', Tr G ow w st.mems.length sF a' w' → Q .normal a' w') → wpAny P .any ops Q fuel listed a w := by
  have hnil : ∀ listed : Array Bool, listed.size = ops.size → Region.ready .any ops listed = [] → unl ops listed = [] := by
    intro listed hs hr
    cases hu : unl ops listed with
    | nil => rfl
    | cons i rest =>
      exfalso
      have hpw : (unl ops listed).Pairwise (· < ·) := List.Pairwise.filter _ List.pairwise_lt_range
      have hi : i ∈ unl ops listed := by rw [hu]; simp
      have hi' := hi
      simp only [unl, List.mem_filter, List.mem_range] at hi'
      have hr' : i ∈ Region.ready .any ops listed := by
        simp only [Region.ready, List.mem_filter, List.mem_range, Bool.and_eq_true]
        refine ⟨hi'.1, hi'.2, ?_⟩
        have ho : ops[i]? = some ops[i] := by simp [hi'.1]
        rw [ho]
        simp only [Option.map_some, Option.getD_some, Array.all_eq_true_iff_forall_mem]
        intro e he
        cases hb : Region.binds .any e with
        | false => rfl
        | true =>
          have hlt := hdep i _ ho e he hb
          have hsz : e.on < listed.size := by omega
          have hnot : e.on ∉ unl ops listed := by
            rw [hu]
            rw [hu, List.pairwise_cons] at hpw
            intro hm
            rcases List.mem_cons.mp hm with hm | hm
            · omega
            · have := hpw.1 _ hm; omega
          simp only [unl, List.mem_filter, List.mem_range, not_and] at hnot
          have := hnot (by omega)
          simpa [Array.getD_eq_getD_getElem?, hsz] using this
      rw [hr] at hr'
      cases hr'
  intro fuel
  induction fuel with
  | zero =>
    intro listed G ow st sF a w hs hD hl h hne e hn
    have hu : unl ops listed = [] := List.eq_nil_of_length_eq_zero (by omega)
    rw [hu] at e
    simp only [arun, Option.some.injEq] at e
    subst e
    refine ⟨?_, hn _ _ ⟨G, ow, Gh.le_refl G, Fr.refl G ow w, h, rfl⟩⟩
    apply List.eq_nil_iff_forall_not_mem.mpr
    intro i hi
    have := (ready_unl hi).1
    rw [hu] at this
    cases this
  | succ fuel ih =>
    intro listed G ow st sF a w hs hD hl h hne e hn
    refine ⟨fun hr => ?_, fun i hi => ?_⟩
    · rw [hnil listed hs hr] at e
      simp only [arun, Option.some.injEq] at e
      subst e
      exact hn _ _ ⟨G, ow, Gh.le_refl G, Fr.refl G ow w, h, rfl⟩
    · obtain ⟨hu, o, ho, hdeps⟩ := ready_unl hi
      obtain ⟨pre, post, hsplit⟩ := List.append_of_mem hu
      have hpw : (unl ops listed).Pairwise (· < ·) := List.Pairwise.filter _ List.pairwise_lt_range
      have hlt : ∀ j ∈ pre, j < i := by
        rw [hsplit, List.pairwise_append] at hpw
        exact fun j hj => hpw.2.2 j hj i (by simp)
      rw [hsplit] at e hl
      obtain ⟨s1, e1, e2⟩ := arun_first ho pre post (fun j hj oj hoj => hcomm listed i j o oj hD hi ho (by rw [hsplit]; simp [hj]) (hlt j hj) hoj) e
      have hD' : Down ops (listed.setIfInBounds i true) := by
        intro k ok hk hlk e' he hb
        have key : listed.getD e'.on false = true → (listed.setIfInBounds i true).getD e'.on false = true := by
          intro hq
          by_cases hei : e'.on = i
          · rw [hei]
            have hi' : i < listed.size := by
              rw [hs]; exact (Array.getElem?_eq_some_iff.mp ho).1
            simp [Array.getD_eq_getD_getElem?, hi']
          · simpa [Array.getD_eq_getD_getElem?, Array.getElem?_setIfInBounds, Ne.symm hei] using hq
        by_cases hki : k = i
        · subst hki
          rw [ho] at hk
          cases hk
          exact key (hdeps e' he hb)
        · refine key (hD k ok hk ?_ e' he hb)
          simpa [Array.getD_eq_getD_getElem?, Array.getElem?_setIfInBounds, Ne.symm hki] using hlk
      have := astep_sound (Q := Q) hcall h hne e1 (K := wpAny P .any ops Q fuel (listed.setIfInBounds i true)) fun a' w' ⟨G1, ow1, g1, g2, g3, g4⟩ =>
        ih (listed.setIfInBounds i true) (by simp [hs]) hD' (by rw [unl_set hs hsplit]; simp at hl ⊢; omega) g3 (by intro hq; rw [hq] at g4; exact hne (List.eq_nil_of_length_eq_zero g4.symm))
          (by rw [unl_set hs hsplit]; exact e2) fun a2 w2 ht => hn a2 w2 (Tr.trans (st1 := s1) (a1 := a') g1 g2 (by rw [g4] at ht; exact ht))
      simp only [wpOp, ho]
      split at this
      · rename_i hw; rw [if_pos hw]; exact .inl this
      · rename_i hw; rw [if_neg hw]; exact this
end Go.Proofs.Ytjbmdfdgeioecaa.Am
/- The abstract machine, part 16: operations that may change places. -/
namespace Go.Proofs.Ytjbmdfdgeioecaa.Am
set_option linter.unusedVariables false
set_option linter.unusedSimpArgs false
variable {P : Program} {fl : Bool}

/-- A call's outcome, if it leaves the callers' memories as they are. -/
noncomputable def stillC (ms : List Mem) (r : Option (AV × List Mem)) : Option (AV × List Mem) :=
  open Classical in if (∃ v, r = some (v, ms)) then r else none
theorem stillC_some (ms : List Mem) (v : AV) : stillC ms (some (v, ms)) = some (v, ms) := by unfold stillC; rw [if_pos ⟨v, rfl⟩]
theorem stillC_mems {ms ms' : List Mem} {r : Option (AV × List Mem)} {v : AV} (h : stillC ms r = some (v, ms')) : ms' = ms ∧ r = some (v, ms) := by
  unfold stillC at h
  split at h
  · rename_i hq
    obtain ⟨u, rfl⟩ := hq
    simp only [Option.some.injEq, Prod.mk.injEq] at h
    obtain ⟨rfl, rfl⟩ := h
    exact ⟨rfl, rfl⟩
  · cases h
/-- Calls that leave the callers' memory as it is. -/
noncomputable def ACall.clean (call : ACall) : ACall := fun f args ms => if ms.isEmpty then call f args [] else stillC ms (call f args ms)
theorem CallOK.clean {call : ACall} (h : CallOK P call) : CallOK P (ACall.clean call) := by
  intro f args ms r ms' e
  unfold ACall.clean at e
  split at e
  · rename_i hm
    have : ms = [] := by simpa using hm
    subst this
    exact h f args [] r ms' e
  · obtain ⟨rfl, e2⟩ := stillC_mems e
    exact h f args ms' r ms' e2

theorem maps_congr {st st' : St} {xs : Array Operand} (h : ∀ x ∈ xs, st.eval x = st'.eval x) : xs.toList.map st.eval = xs.toList.map st'.eval :=
  List.map_congr_left fun x hx => h x (by simpa using hx)
theorem parts_congr {st st' : St} {ps : Array (Nat × Operand)} (h : ∀ x ∈ (ps.toList.map (·.2)).toArray, st.eval x = st'.eval x) :
    (ps.toList.map fun p => (p.1, st.eval p.2)) = ps.toList.map fun p => (p.1, st'.eval p.2) :=
  List.map_congr_left fun p hp => by
    rw [h p.2 (by
      rw [List.mem_toArray, List.mem_map]
      exact ⟨p, hp, rfl⟩)]
theorem aload_congr {st st' : St} (hm : st.mems = st'.mems) (t : TypeId) (x : AV) : aload P st t x = aload P st' t x := by
  have hd : st.d = st'.d := by simp [St.d, hm]
  unfold aload
  rw [hm, hd]
theorem amapGet_congr {st st' : St} (hm : st.mems = st'.mems) (t : TypeId) (x k : AV) (ok : Bool) : amapGet P st t x k ok = amapGet P st' t x k ok := by
  have hd : st.d = st'.d := by simp [St.d, hm]
  unfold amapGet amapGetI amapGetS
  rw [hm, hd]
theorem apure_congr {st st' : St} (hm : st.mems = st'.mems) {op : Op} (h : ∀ x ∈ op.operands, st.eval x = st'.eval x) : apure P st op = apure P st' op := by
  cases op with
  | move x => simp only [apure]; rw [h x (by simp [Op.operands])]
  | nilCheck x => simp only [apure]; rw [h x (by simp [Op.operands])]
  | assign x => simp only [apure]; rw [h x (by simp [Op.operands])]
  | pick c a b => simp only [apure]; rw [h c (by simp [Op.operands]), h a (by simp [Op.operands]), h b (by simp [Op.operands])]
  | build t parts => simp only [apure]; rw [parts_congr h]
  | load t x => simp only [apure]; rw [h x (by simp [Op.operands]), aload_congr hm]
  | binOp op t x y t' => simp only [apure]; rw [h x (by simp [Op.operands]), h y (by simp [Op.operands])]
  | unOp op t x => simp only [apure]; rw [h x (by simp [Op.operands])]
  | fieldAddr t x f => simp only [apure]; rw [h x (by simp [Op.operands])]
  | field t x f => simp only [apure]; rw [h x (by simp [Op.operands])]
  | indexAddr t x i => simp only [apure]; rw [h x (by simp [Op.operands]), h i (by simp [Op.operands])]
  | slice t x lo hi mx =>
    cases mx with
    | some m =>
      simp only [apure]
      rw [h x (by simp [Op.operands]), h m (by simp [Op.operands])]
      have h1 : lo.map st.eval = lo.map st'.eval := by cases lo with | none => rfl | some l => simp [h l (by simp [Op.operands])]
      have h2 : hi.map st.eval = hi.map st'.eval := by cases hi with | none => rfl | some l => simp [h l (by simp [Op.operands])]
      rw [h1, h2]
    | none =>
      simp only [apure]
      rw [h x (by simp [Op.operands])]
      have h1 : lo.map st.eval = lo.map st'.eval := by cases lo with | none => rfl | some l => simp [h l (by simp [Op.operands])]
      have h2 : hi.map st.eval = hi.map st'.eval := by cases hi with | none => rfl | some l => simp [h l (by simp [Op.operands])]
      rw [h1, h2]
  | extract x i => simp only [apure]; rw [h x (by simp [Op.operands])]
  | lookup t x i ok => simp only [apure]; rw [h x (by simp [Op.operands]), h i (by simp [Op.operands]), amapGet_congr hm]
  | makeFunc fn first caps =>
    cases fn with
    | func f => simp only [apure]; rw [maps_congr fun x hx => h x (by simp [Op.operands, hx]), maps_congr (xs := caps) fun x hx => h x (by simp [Op.operands, hx])]
    | _ => rfl
  | call c =>
    obtain ⟨callee, args, argTypes⟩ := c
    cases callee with
    | builtin b =>
      have hx : ∀ x ∈ args, st.eval x = st'.eval x := fun x hx => h x (by simp [Op.operands, Call.operands, hx])
      cases b <;> try rfl
      all_goals (simp only [apure]; split <;> (try rfl))
      · rename_i x t hx' ht'; rw [hx x (by rw [← Array.mem_toList_iff, hx']; simp)]
      · rename_i x y hx'; rw [hx x (by rw [← Array.mem_toList_iff, hx']; simp), hx y (by rw [← Array.mem_toList_iff, hx']; simp)]
      · rename_i x y hx'; rw [hx x (by rw [← Array.mem_toList_iff, hx']; simp), hx y (by rw [← Array.mem_toList_iff, hx']; simp)]
    | _ => rfl
  | _ => rfl

theorem aop_congr {call : ACall} {st st' : St} (hm : st.mems = st'.mems) {o : Oper} (h : ∀ x ∈ o.op.operands, st.eval x = st'.eval x) : aop P call fl o st = aop P call fl o st' := by
  have hd : st.d = st'.d := by simp [St.d, hm]
  have hnew : ∀ s cs, anew st s cs = anew st' s cs := fun s cs => by unfold anew; rw [hm, hd]
  have hp := apure_congr (P := P) hm h
  unfold aop
  cases ho : o.op with
  | alloc t => simp only [hnew]
  | box t x =>
    rw [ho] at h
    simp only [hnew]
    rw [h x (by simp [Op.operands])]
  | buildSlice t n parts =>
    rw [ho] at h
    simp only [hm]
    rw [parts_congr h]
  | load t x =>
    rw [ho] at h
    simp only [hm]
    rw [h x (by simp [Op.operands]), aload_congr hm]
  | store t p x =>
    rw [ho] at h
    simp only
    rw [h p (by simp [Op.operands]), h x (by simp [Op.operands])]
    unfold astore
    rw [hm, hd]
  | makeSlice t x y =>
    rw [ho] at h
    simp only
    rw [h x (by simp [Op.operands]), h y (by simp [Op.operands])]
    unfold amake
    rw [hm, hd]
  | makeMap t r =>
    cases r with
    | none =>
      simp only
      unfold amapNew
      rw [hm, hd]
    | some r => rw [ho] at hp; simp only [hp, hm]
  | mapUpdate t m k x =>
    rw [ho] at h
    simp only
    rw [h m (by simp [Op.operands]), h k (by simp [Op.operands]), h x (by simp [Op.operands])]
    unfold amapSet amapSetI amapSetS locOK
    rw [hm, hd]
  | insert t m k x =>
    rw [ho] at h
    simp only
    rw [h m (by simp [Op.operands]), h k (by simp [Op.operands]), h x (by simp [Op.operands])]
    unfold amapSet amapSetI amapSetS locOK
    rw [hm, hd]
  | call c =>
    rw [ho] at h hp
    obtain ⟨callee, args, argTypes⟩ := c
    cases callee with
    | builtin b =>
      have hx : ∀ x ∈ args, st.eval x = st'.eval x := fun x hx => h x (by simp [Op.operands, Call.operands, hx])
      cases b
      case append =>
        simp only
        split
        · rename_i x y t t' hx' ht'
          rw [hx x (by rw [← Array.mem_toList_iff, hx']; simp), hx y (by rw [← Array.mem_toList_iff, hx']; simp)]
          unfold aappend
          rw [hm, hd]
        · rfl
      all_goals (simp only [hp, hm])
    | value f =>
      simp only
      rw [h f (by simp [Op.operands, Call.operands]), maps_congr fun x hx => h x (by simp [Op.operands, Call.operands, hx]), hm, hd]
    | invoke r m => simp only [hp, hm]
  | _ => rw [ho] at hp; simp only [hp, hm]

/-- Operations that leave the memories alone (calls: of the clean kind). -/
def Oper.reader (o : Oper) : Bool :=
  match o.op with
  | .alloc _ => false
  | .box _ _ => false
  | .store _ _ _ => false
  | .makeMap _ _ => false
  | .makeSlice _ _ _ => false
  | .mapUpdate _ _ _ _ => false
  | .insert _ _ _ _ => false
  | .call { callee := .builtin .append, .. } => false
  | _ => true
theorem reader_mems {call : ACall} {o : Oper} (hr : Oper.reader o = true) {st : St} {y : AV} {ms' : List Mem} (e : aop P (ACall.clean call) fl o st = some (y, ms')) : ms' = st.mems := by
  unfold aop at e
  unfold Oper.reader at hr
  split at e
  · rename_i ho; simp [ho] at hr
  · rename_i ho; simp [ho] at hr
  · simp only [Option.map_eq_some_iff, Prod.mk.injEq] at e
    obtain ⟨_, _, _, rfl⟩ := e
    rfl
  · simp only [Option.map_eq_some_iff, Prod.mk.injEq] at e
    obtain ⟨_, _, _, rfl⟩ := e
    rfl
  · rename_i ho; simp [ho] at hr
  · rename_i ho; simp [ho] at hr
  · rename_i ho; simp [ho] at hr
  · rename_i ho; simp [ho] at hr
  · rename_i ho; simp [ho] at hr
  · rename_i ho; simp [ho] at hr
  · split at e
    · split at e
      · split at e
        · split at e
          · simp only [Option.some.injEq, Prod.mk.injEq] at e
            exact e.2.symm
          · cases e
        · split at e
          · cases e
          · rename_i hne
            simp only [ACall.clean, hne, Bool.false_eq_true, if_false] at e
            exact (stillC_mems e).1
      · cases e
    · cases e
  · simp only [Option.map_eq_some_iff, Prod.mk.injEq] at e
    obtain ⟨_, _, _, rfl⟩ := e
    rfl
end Go.Proofs.Ytjbmdfdgeioecaa.Am
/- The abstract machine, part 17: regions that draw their order: the check that the operations may change places. -/
namespace Go.Proofs.Ytjbmdfdgeioecaa.Am
set_option linter.unusedVariables false
set_option linter.unusedSimpArgs false
variable {P : Program} {fl : Bool}

/-- What an operation has to do with the memories: 0 nothing, 1 it reads variables, 2 it writes rows, 3 more. -/
def Oper.mclass (o : Oper) : Nat :=
  match o.op with
  | .alloc _ => 3
  | .box _ _ => 3
  | .store _ _ _ => 3
  | .makeMap _ _ => 3
  | .makeSlice _ _ _ => 3
  | .mapUpdate _ _ _ _ => 3
  | .insert _ _ _ _ => 3
  | .lookup _ _ _ _ => 1
  | .load _ _ => 1
  | .call { callee := .builtin .append, .. } => 2
  | _ => 0

/-- Calls of functions. -/
def Oper.vcall (o : Oper) : Bool :=
  match o.op with
  | .call { callee := .value _, .. } => true
  | _ => false
/-- A block's cells; a row's are hidden. -/
def hidR : Option (List AV) → Option (List AV)
  | some [.mrw _ _ _] => some [.mrw 0 0 []]
  | r => r
theorem hidR_notRw {o : Option (List AV)} {cs : List AV} (h : hidR o = some cs) (hn : notRw cs = true) : o = some cs := by
  unfold hidR at h
  split at h
  · simp only [Option.some.injEq] at h
    subst h
    cases hn
  · exact h
def entO : Option (List AV) → Option (List PV × List AV)
  | some [.ments ks xs] => some (ks, xs)
  | _ => none
theorem hidR_eq {o o' : Option (List AV)} (h : hidR o = hidR o') : okC o = okC o' ∧ entO o = entO o' := by
  have key : ∀ o : Option (List AV), (∃ v z l, o = some [.mrw v z l]) ∨ hidR o = o := by
    intro o
    unfold hidR
    split
    · exact .inl ⟨_, _, _, rfl⟩
    · exact .inr rfl
  rcases key o with ⟨v, z, l, rfl⟩ | h1
  · rcases key o' with ⟨v', z', l', rfl⟩ | h2
    · exact ⟨rfl, rfl⟩
    · rw [h2] at h
      subst h
      exact ⟨rfl, rfl⟩
  · rcases key o' with ⟨v', z', l', rfl⟩ | h2
    · rw [h1] at h
      subst h
      exact ⟨rfl, rfl⟩
    · rw [h1, h2] at h
      subst h
      exact ⟨rfl, rfl⟩
/-- The same variables, but for the rows that may be written. -/
def VEq (ms ms' : List Mem) : Prop := ms.length = ms'.length ∧ ∀ d s, hidR (varAt ms d s) = hidR (varAt ms' d s)
theorem VEq.refl (ms : List Mem) : VEq ms ms := ⟨rfl, fun _ _ => rfl⟩
theorem VEq.symm {ms ms' : List Mem} (h : VEq ms ms') : VEq ms' ms := ⟨h.1.symm, fun d s => (h.2 d s).symm⟩

theorem aload_vars {st st' : St} (h : VEq st.mems st'.mems) (t : TypeId) (x : AV) : guardR true x (aload P st t x) = guardR true x (aload P st' t x) := by
  have hd : st.d = st'.d := by simp [St.d, h.1]
  have hv : ∀ d s, okC (varAt st.mems d s) = okC (varAt st'.mems d s) := fun d s => (hidR_eq (h.2 d s)).1
  cases x with
  | rptr => rfl
  | ptr loc s off =>
    simp only [guardR]
    unfold aload
    cases P.underlying t with
    | none => rfl
    | some dsc => cases P.info? t with
      | none => rfl
      | some i => cases loc <;> simp only [hd, hv]
  | _ =>
    simp only [guardR]
    unfold aload
    cases P.underlying t with
    | none => rfl
    | some dsc => cases P.info? t <;> rfl

theorem amapGet_vars {st st' : St} (h : VEq st.mems st'.mems) (t : TypeId) (x k : AV) (ok : Bool) : amapGet P st t x k ok = amapGet P st' t x k ok := by
  have hd : st.d = st'.d := by simp [St.d, h.1]
  have hv : ∀ d s, entsAt st.mems d s = entsAt st'.mems d s := fun d s => (hidR_eq (h.2 d s)).2
  unfold amapGet amapGetI amapGetS
  simp only [hd, hv]
theorem apure_moved {st st' : St} {op : Op} (h : ∀ x ∈ op.operands, st.eval x = st'.eval x) (hn : ∀ t x, op ≠ .load t x) (hl : (∃ t x i ok, op = .lookup t x i ok) → VEq st.mems st'.mems) : apure P st op = apure P st' op := by
  cases op with
  | move x => simp only [apure]; rw [h x (by simp [Op.operands])]
  | nilCheck x => simp only [apure]; rw [h x (by simp [Op.operands])]
  | assign x => simp only [apure]; rw [h x (by simp [Op.operands])]
  | pick c a b => simp only [apure]; rw [h c (by simp [Op.operands]), h a (by simp [Op.operands]), h b (by simp [Op.operands])]
  | build t parts => simp only [apure]; rw [parts_congr h]
  | load t x => exact absurd rfl (hn t x)
  | binOp op t x y t' => simp only [apure]; rw [h x (by simp [Op.operands]), h y (by simp [Op.operands])]
  | unOp op t x => simp only [apure]; rw [h x (by simp [Op.operands])]
  | fieldAddr t x f => simp only [apure]; rw [h x (by simp [Op.operands])]
  | field t x f => simp only [apure]; rw [h x (by simp [Op.operands])]
  | indexAddr t x i => simp only [apure]; rw [h x (by simp [Op.operands]), h i (by simp [Op.operands])]
  | slice t x lo hi mx =>
    cases mx with
    | some m =>
      simp only [apure]
      rw [h x (by simp [Op.operands]), h m (by simp [Op.operands])]
      have h1 : lo.map st.eval = lo.map st'.eval := by cases lo with | none => rfl | some l => simp [h l (by simp [Op.operands])]
      have h2 : hi.map st.eval = hi.map st'.eval := by cases hi with | none => rfl | some l => simp [h l (by simp [Op.operands])]
      rw [h1, h2]
    | none =>
      simp only [apure]
      rw [h x (by simp [Op.operands])]
      have h1 : lo.map st.eval = lo.map st'.eval := by cases lo with | none => rfl | some l => simp [h l (by simp [Op.operands])]
      have h2 : hi.map st.eval = hi.map st'.eval := by cases hi with | none => rfl | some l => simp [h l (by simp [Op.operands])]
      rw [h1, h2]
  | extract x i => simp only [apure]; rw [h x (by simp [Op.operands])]
  | lookup t x i ok => simp only [apure]; rw [h x (by simp [Op.operands]), h i (by simp [Op.operands]), amapGet_vars (hl ⟨t, x, i, ok, rfl⟩)]
  | makeFunc fn first caps =>
    cases fn with
    | func f => simp only [apure]; rw [maps_congr fun x hx => h x (by simp [Op.operands, hx]), maps_congr (xs := caps) fun x hx => h x (by simp [Op.operands, hx])]
    | _ => rfl
  | call c =>
    obtain ⟨callee, args, argTypes⟩ := c
    cases callee with
    | builtin b =>
      have hx : ∀ x ∈ args, st.eval x = st'.eval x := fun x hx => h x (by simp [Op.operands, Call.operands, hx])
      cases b <;> try rfl
      all_goals (simp only [apure]; split <;> (try rfl))
      · rename_i x t hx' ht'; rw [hx x (by rw [← Array.mem_toList_iff, hx']; simp)]
      · rename_i x y hx'; rw [hx x (by rw [← Array.mem_toList_iff, hx']; simp), hx y (by rw [← Array.mem_toList_iff, hx']; simp)]
      · rename_i x y hx'; rw [hx x (by rw [← Array.mem_toList_iff, hx']; simp), hx y (by rw [← Array.mem_toList_iff, hx']; simp)]
    | _ => rfl
  | _ => rfl

/-- Readers keep the memories, and give the same where the variables (loads), or nothing (others) are the same. -/
theorem aop_reader {call : ACall} {o : Oper} (hr : Oper.mclass o ≤ 1) {st st' : St} (h : ∀ x ∈ o.op.operands, st.eval x = st'.eval x) (hl : Oper.mclass o = 1 → st.mems = st'.mems ∨ (fl = true ∧ VEq st.mems st'.mems)) (hv : Oper.vcall o = true → st.mems = st'.mems)
    {y : AV} {ms' : List Mem} (e : aop P (ACall.clean call) fl o st = some (y, ms')) : ms' = st.mems ∧ aop P (ACall.clean call) fl o st' = some (y, st'.mems) := by
  have hm : ms' = st.mems := by
    refine reader_mems (o := o) ?_ e
    unfold Oper.mclass at hr
    unfold Oper.reader
    split at hr <;> simp_all
  refine ⟨hm, ?_⟩
  subst hm
  unfold Oper.mclass at hr hl
  have hp := fun hn => apure_moved (P := P) h hn (fun ⟨t, x, i, ok, hx⟩ => (hl (by simp [hx])).elim (fun he => by rw [he]; exact .refl _) (·.2))
  unfold aop at e ⊢
  cases ho : o.op with
  | alloc t => simp [ho] at hr
  | box t x => simp [ho] at hr
  | store t p x => simp [ho] at hr
  | makeMap t r => simp [ho] at hr
  | makeSlice t x y => simp [ho] at hr
  | mapUpdate t m k x => simp [ho] at hr
  | insert t m k x => simp [ho] at hr
  | load t x =>
    rw [ho] at h
    simp only [ho] at e ⊢
    have hx := h x (by simp [Op.operands])
    rw [← hx]
    have hg : guardR fl (st.eval x) (aload P st t (st.eval x)) = guardR fl (st.eval x) (aload P st' t (st.eval x)) := by
      rcases hl (by simp [ho]) with he | ⟨rfl, he⟩
      · rw [aload_congr he]
      · exact aload_vars he t _
    rw [← hg]
    simp only [Option.map_eq_some_iff, Prod.mk.injEq] at e ⊢
    obtain ⟨z, hz, rfl, _⟩ := e
    exact ⟨z, hz, by simp⟩
  | buildSlice t n parts =>
    rw [ho] at h
    simp only [ho] at e ⊢
    rw [← parts_congr h]
    simp only [Option.map_eq_some_iff, Prod.mk.injEq] at e ⊢
    obtain ⟨z, hz, rfl, _⟩ := e
    exact ⟨z, hz, by simp⟩
  | call c =>
    have hp := hp (by rw [ho]; intro _ _ hq; cases hq)
    rw [ho] at h hp hr
    obtain ⟨callee, args, argTypes⟩ := c
    cases callee with
    | builtin b =>
      cases b
      case append => simp at hr
      all_goals
        simp only [ho] at e ⊢
        rw [← hp]
        simp only [Option.map_eq_some_iff, Prod.mk.injEq] at e ⊢
        obtain ⟨z, hz, rfl, _⟩ := e
        exact ⟨z, hz, by simp⟩
    | value f =>
      simp only [ho] at e ⊢
      rw [← h f (by simp [Op.operands, Call.operands]), ← maps_congr fun x hx => h x (by simp [Op.operands, Call.operands, hx])]
      have hmm : st.mems = st'.mems := hv (by simp [Oper.vcall, ho])
      have hdd : st.d = st'.d := by simp [St.d, hmm]
      rw [← hmm, ← hdd]
      exact e
    | invoke r m =>
      simp only [ho] at e ⊢
      rw [← hp]
      simp only [Option.map_eq_some_iff, Prod.mk.injEq] at e ⊢
      obtain ⟨z, hz, rfl, _⟩ := e
      exact ⟨z, hz, by simp⟩
  | _ =>
    have hp := hp (by rw [ho]; intro _ _ hq; cases hq)
    rw [ho] at hp
    simp only [ho] at e ⊢
    rw [← hp]
    simp only [Option.map_eq_some_iff, Prod.mk.injEq] at e ⊢
    obtain ⟨z, hz, rfl, _⟩ := e
    exact ⟨z, hz, by simp⟩

theorem aappend_vars {st : St} {dst : Option Tmp} {t t' : TypeId} {x y z : AV} {ms' : List Mem} (e : aappend P st dst t t' x y = some (z, ms')) : VEq ms' st.mems := by
  have key : ∀ d s n, VEq (setTok st.mems d s n) st.mems := fun d s n => ⟨modMem_length _ _ _, fun d' s' => by rw [varAt_setTok]⟩
  unfold aappend at e
  split at e
  · split at e
    · split at e
      · split at e
        · simp only [Option.some.injEq, Prod.mk.injEq] at e; rw [← e.2]; exact .refl _
        split at e
        · simp only [Option.bind_eq_some_iff] at e
          obtain ⟨⟨v', z', cs⟩, hq, e⟩ := e
          simp only at e
          split at e
          · simp only [Option.some.injEq, Prod.mk.injEq] at e
            rw [← e.2]
            refine ⟨modMem_length _ _ _, fun d' s' => ?_⟩
            rw [varAt_setVar]
            split
            · rename_i hc
              rw [hc.1, hc.2.1, rwAt_some hq]
              rfl
            · rfl
          · cases e
        split at e
        · simp only [Option.some.injEq, Prod.mk.injEq] at e; rw [← e.2]; exact key _ _ _
        · cases e
      · split at e
        · simp only [Option.some.injEq, Prod.mk.injEq] at e; rw [← e.2]; exact key _ _ _
        · cases e
      · split at e
        · simp only [Option.some.injEq, Prod.mk.injEq] at e; rw [← e.2]; exact .refl _
        simp only [Option.bind_eq_some_iff] at e
        obtain ⟨⟨v', z', cs⟩, hq, e⟩ := e
        simp only at e
        split at e
        · simp only [Option.some.injEq, Prod.mk.injEq] at e
          rw [← e.2]
          refine ⟨modMem_length _ _ _, fun d' s' => ?_⟩
          rw [varAt_setVar]
          split
          · rename_i hc
            rw [hc.1, hc.2.1, rwAt_some hq]
            rfl
          · rfl
        · cases e
      · cases e
    · cases e
  · cases e
theorem aop_append {call : ACall} {o : Oper} (hr : Oper.mclass o = 2) {st : St} {y : AV} {ms' : List Mem} (e : aop P call fl o st = some (y, ms')) : VEq ms' st.mems := by
  unfold Oper.mclass at hr
  unfold aop at e
  split at hr <;> simp at hr
  rename_i ho
  simp only [ho] at e
  split at e
  · exact aappend_vars e
  · cases e

/-- A step's value and memories. -/
def astepv (P : Program) (call : ACall) (fl : Bool) (ops : Array Oper) (o : Oper) (st : St) : Option (AV × List Mem) :=
  match o.guard with
  | none => aop P call fl o st
  | some (j, want) =>
    match ((ops[j]?).bind (·.dst)).bind (st.tmps[·]?) with
    | some (.pv (.bool b)) => if b = want then aop P call fl o st else some (.tup [], st.mems)
    | some (.tup []) => some (.tup [], st.mems)
    | _ => none
theorem astep_eq (call : ACall) (ops : Array Oper) (o : Oper) (st : St) : astep P call fl ops o st = (astepv P call fl ops o st).map fun q => ({ st with mems := q.2 } : St).put o.dst q.1 := by
  unfold astep astepv
  cases o.guard with
  | none => rfl
  | some q =>
    obtain ⟨j, want⟩ := q
    simp only
    generalize ((ops[j]?).bind (·.dst)).bind (st.tmps[·]?) = q
    cases q with
    | none => rfl
    | some x =>
      cases x with
      | pv p =>
        cases p with
        | bool b => simp only; split <;> rfl
        | _ => rfl
      | tup l => cases l <;> rfl
      | _ => rfl

theorem eval_of_tmps {st st' : St} {o : Oper} {ops : Array Oper} (h : ∀ t ∈ o.looksAt ops, st.tmps[t]? = st'.tmps[t]?) : ∀ x ∈ o.op.operands, st.eval x = st'.eval x := by
  intro x hx
  cases x with
  | tmp t =>
    have := h t (List.mem_append_left _ (List.mem_filterMap.2 ⟨.tmp t, by simpa using hx, rfl⟩))
    simp only [St.eval, List.getD, this]
  | _ => rfl
theorem guard_of_tmps {st st' : St} {o : Oper} {ops : Array Oper} (h : ∀ t ∈ o.looksAt ops, st.tmps[t]? = st'.tmps[t]?) {j : Nat} {want : Bool} (hg : o.guard = some (j, want)) :
    ((ops[j]?).bind (·.dst)).bind (st.tmps[·]?) = ((ops[j]?).bind (·.dst)).bind (st'.tmps[·]?) := by
  cases hd : (ops[j]?).bind (·.dst) with
  | none => rfl
  | some d => exact h d (List.mem_append_right _ (by simp [hg, hd]))

theorem astepv_congr {call : ACall} {ops : Array Oper} {o : Oper} {st st' : St} (h : ∀ t ∈ o.looksAt ops, st.tmps[t]? = st'.tmps[t]?) (hm : st.mems = st'.mems) : astepv P call fl ops o st = astepv P call fl ops o st' := by
  have ha := aop_congr (P := P) (call := call) (fl := fl) hm (eval_of_tmps h)
  unfold astepv
  cases hg : o.guard with
  | none => exact ha
  | some q => obtain ⟨j, want⟩ := q; simp only [guard_of_tmps h hg, ha, hm]
theorem astepv_reader {call : ACall} {ops : Array Oper} {o : Oper} (hr : Oper.mclass o ≤ 1) {st st' : St} (h : ∀ t ∈ o.looksAt ops, st.tmps[t]? = st'.tmps[t]?) (hl : Oper.mclass o = 1 → st.mems = st'.mems ∨ (fl = true ∧ VEq st.mems st'.mems)) (hv : Oper.vcall o = true → st.mems = st'.mems)
    {y : AV} {ms' : List Mem} (e : astepv P (ACall.clean call) fl ops o st = some (y, ms')) : ms' = st.mems ∧ astepv P (ACall.clean call) fl ops o st' = some (y, st'.mems) := by
  have ha := fun e => aop_reader (P := P) (call := call) (fl := fl) hr (eval_of_tmps h) hl hv (y := y) (ms' := ms') e
  unfold astepv at e ⊢
  cases hg : o.guard with
  | none => simp only [hg] at e ⊢; exact ha e
  | some q =>
    obtain ⟨j, want⟩ := q
    simp only [hg] at e ⊢
    rw [← guard_of_tmps h hg]
    split at e
    · split at e
      · rename_i hb; simp only [hb, if_true]; exact ha e
      · rename_i hb; simp only [hb, if_false]; simp only [Option.some.injEq, Prod.mk.injEq] at e; exact ⟨e.2.symm, by rw [e.1]⟩
    · simp only [Option.some.injEq, Prod.mk.injEq] at e; exact ⟨e.2.symm, by rw [e.1]⟩
    · cases e
theorem astepv_append {call : ACall} {ops : Array Oper} {o : Oper} (hr : Oper.mclass o = 2) {st : St} {y : AV} {ms' : List Mem} (e : astepv P call fl ops o st = some (y, ms')) : VEq ms' st.mems := by
  unfold astepv at e
  split at e
  · exact aop_append hr e
  · split at e
    · split at e
      · exact aop_append hr e
      · simp only [Option.some.injEq, Prod.mk.injEq] at e; rw [← e.2]; exact .refl _
    · simp only [Option.some.injEq, Prod.mk.injEq] at e; rw [← e.2]; exact .refl _
    · cases e

def commB (fl : Bool) (ops : Array Oper) (x y : Oper) : Bool :=
  x.apart ops y && ((!Oper.vcall x && !Oper.vcall y && (Oper.mclass x == 0 || Oper.mclass y == 0 || (fl && ((Oper.mclass x == 1 && Oper.mclass y == 2) || (Oper.mclass x == 2 && Oper.mclass y == 1))))) || (decide (Oper.mclass x ≤ 1) && decide (Oper.mclass y ≤ 1)))

theorem put_tmps_ne {st : St} {dst : Option Tmp} {v : AV} {t : Nat} (h : dst ≠ some t) : (st.put dst v).tmps[t]? = st.tmps[t]? := by
  cases dst with
  | none => rfl
  | some d => simp only [St.put]; rw [List.getElem?_set_ne]; intro e; exact h (by rw [e])
theorem put_put (ms : List Mem) (st : St) (x y : Option Tmp) (v u : AV) (h : ∀ d, x = some d → y ≠ some d) :
    ({ ({ st with mems := ms } : St).put x v with mems := ms } : St).put y u = ({ ({ st with mems := ms } : St).put y u with mems := ms } : St).put x v := by
  cases x with
  | none => cases y <;> rfl
  | some d =>
    cases y with
    | none => rfl
    | some e =>
      have hne : d ≠ e := fun he => h d rfl (he ▸ rfl)
      simp only [St.put, St.mk.injEq, and_true]
      exact List.set_comm _ _ hne

theorem comm_of {call : ACall} {ops : Array Oper} {x y : Oper} (h : commB fl ops x y = true) : Comm P (ACall.clean call) fl ops x y := by
  simp only [commB, Bool.and_eq_true] at h
  obtain ⟨hap, hc⟩ := h
  obtain ⟨h1, h2, h3⟩ := Oper.apart_spec hap
  intro st s1 s2 e1 e2
  rw [astep_eq] at e1 e2
  simp only [Option.map_eq_some_iff] at e1 e2
  obtain ⟨⟨v1, m1⟩, e1, rfl⟩ := e1
  obtain ⟨⟨v2, m2⟩, e2, rfl⟩ := e2
  simp only [put_mems] at e2 ⊢
  have ty : ∀ (ms : List Mem) (st' : St), st'.tmps = st.tmps → ∀ t ∈ y.looksAt ops, (({ st' with mems := ms } : St).put x.dst v1).tmps[t]? = st.tmps[t]? := fun ms st' hst t ht => by
    rw [put_tmps_ne (fun he => h1 t he ht)]; simp [hst]
  have tx : ∀ (ms : List Mem) (v : AV), ∀ t ∈ x.looksAt ops, (({ st with mems := ms } : St).put y.dst v).tmps[t]? = st.tmps[t]? := fun ms v t ht => by
    rw [put_tmps_ne (fun he => h3 t he ht)]
  -- the other order, given both outcomes
  have fin : ∀ m2', astepv P (ACall.clean call) fl ops y st = some (v2, m2') → astepv P (ACall.clean call) fl ops x (({ st with mems := m2' } : St).put y.dst v2) = some (v1, m2) →
      ∃ s1', astep P (ACall.clean call) fl ops y st = some s1' ∧ astep P (ACall.clean call) fl ops x s1' = some (({ ({ st with mems := m1 } : St).put x.dst v1 with mems := m2 } : St).put y.dst v2) := by
    intro m2' g1 g2
    refine ⟨({ st with mems := m2' } : St).put y.dst v2, by rw [astep_eq, g1]; rfl, ?_⟩
    rw [astep_eq, g2]
    simp only [Option.map_some, Option.some.injEq]
    have e : ∀ (ms ms' : List Mem) (d : Option Tmp) (v : AV), ({ ({ st with mems := ms } : St).put d v with mems := ms' } : St) = ({ st with mems := ms' } : St).put d v := fun ms ms' d v => by cases d <;> rfl
    have hp := put_put m2 st x.dst y.dst v1 v2 h2
    rw [e m2 m2, e m2 m2] at hp
    rw [e m1 m2, e m2' m2]
    exact hp.symm
  simp only [Bool.or_eq_true, beq_iff_eq, Bool.and_eq_true, decide_eq_true_eq, Bool.not_eq_true'] at hc
  have hcases : (Oper.mclass x ≤ 1 ∧ Oper.mclass y ≤ 1) ∨ (Oper.vcall x = false ∧ Oper.vcall y = false ∧ ((Oper.mclass x = 0 ∨ (fl = true ∧ Oper.mclass x = 1 ∧ Oper.mclass y = 2)) ∨ (Oper.mclass y = 0 ∨ (fl = true ∧ Oper.mclass y = 1 ∧ Oper.mclass x = 2)))) := by
    rcases hc with ⟨⟨c1, c2⟩, (c3 | c3) | ⟨c3, ⟨c4, c5⟩ | ⟨c4, c5⟩⟩⟩ | c
    · exact .inr ⟨c1, c2, .inl (.inl c3)⟩
    · exact .inr ⟨c1, c2, .inr (.inl c3)⟩
    · exact .inr ⟨c1, c2, .inl (.inr ⟨c3, c4, c5⟩)⟩
    · exact .inr ⟨c1, c2, .inr (.inr ⟨c3, c5, c4⟩)⟩
    · exact .inl c
  rcases hcases with ⟨hx, hy⟩ | ⟨vx, vy, hx0 | hy0⟩
  · -- both are readers
    obtain ⟨rfl, _⟩ := astepv_reader hx (st' := st) (fun _ _ => rfl) (fun _ => .inl rfl) (fun _ => rfl) e1
    have ey : astepv P (ACall.clean call) fl ops y st = some (v2, m2) := by
      rw [← e2]; exact (astepv_congr (fun t ht => ty _ st rfl t ht) (by simp only [put_mems])).symm
    obtain ⟨rfl, _⟩ := astepv_reader hy (st' := st) (fun _ _ => rfl) (fun _ => .inl rfl) (fun _ => rfl) ey
    refine fin st.mems ey ?_
    rw [← e1]
    exact astepv_congr (fun t ht => tx _ _ t ht) (by simp only [put_mems])
  · -- x is a reader
    have hx : Oper.mclass x ≤ 1 := by omega
    obtain ⟨rfl, _⟩ := astepv_reader hx (st' := st) (fun _ _ => rfl) (fun _ => .inl rfl) (fun _ => rfl) e1
    have ey : astepv P (ACall.clean call) fl ops y st = some (v2, m2) := by
      rw [← e2]; exact (astepv_congr (fun t ht => ty _ st rfl t ht) (by simp only [put_mems])).symm
    refine fin m2 ey ?_
    have := (astepv_reader hx (st' := ({ st with mems := m2 } : St).put y.dst v2) (fun t ht => (tx _ _ t ht).symm) (fun h1x => .inr (by
      rcases hx0 with h0 | ⟨hf, _, h2⟩
      · omega
      · refine ⟨hf, ?_⟩
        simp only [put_mems]
        exact (astepv_append h2 ey).symm)) (fun hq => by rw [vx] at hq; cases hq) e1).2
    rw [this]
    simp only [put_mems]
  · -- y is a reader
    have hy : Oper.mclass y ≤ 1 := by omega
    obtain ⟨rfl, ey⟩ := astepv_reader hy (st' := st) (fun t ht => ty _ st rfl t ht) (fun h => .inr (by
      rcases hy0 with h0 | ⟨hf, _, h2⟩
      · omega
      · refine ⟨hf, ?_⟩
        simp only [put_mems]
        exact astepv_append h2 e1)) (fun hq => by rw [vy] at hq; cases hq) e2
    refine fin st.mems ey ?_
    simp only [put_mems]
    rw [← e1]
    exact astepv_congr (fun t ht => tx _ _ t ht) (by simp only [put_mems])
end Go.Proofs.Ytjbmdfdgeioecaa.Am
/- The abstract machine, part 18: regions that draw their order: the check of a whole region. -/
namespace Go.Proofs.Ytjbmdfdgeioecaa.Am
set_option linter.unusedVariables false
set_option linter.unusedSimpArgs false
variable {P : Program} {fl : Bool}

/-- What an operation waits for, at whatever distance: as bits. -/
def ancMask (acc : List Nat) (l : List Edge) : Nat := l.foldl (fun s e => if Region.binds .any e then s ||| 2 ^ e.on ||| acc.getD e.on 0 else s) 0
def ancGo : List Oper → List Nat → List Nat
  | [], acc => acc
  | o :: os, acc => ancGo os (acc ++ [ancMask acc o.after.toList])
inductive Anc (ops : Array Oper) : Nat → Nat → Prop
  | one {i : Nat} {o : Oper} {e : Edge} : ops[i]? = some o → e ∈ o.after → Region.binds .any e = true → Anc ops i e.on
  | more {i j : Nat} {o : Oper} {e : Edge} : ops[i]? = some o → e ∈ o.after → Region.binds .any e = true → Anc ops e.on j → Anc ops i j
theorem getD_listed {l : Array Bool} {i : Nat} (h : l.getD i false = true) : l.getD i true = true := by
  rw [Array.getD_eq_getD_getElem?] at h ⊢
  cases hq : l[i]? with
  | none => rfl
  | some b => simpa [hq] using h
theorem Anc.listed {ops : Array Oper} {listed : Array Bool} (hD : Down ops listed) {i j : Nat} (h : Anc ops i j) :
    (∀ o, ops[i]? = some o → ∀ e ∈ o.after, Region.binds .any e = true → listed.getD e.on false = true) → listed.getD j false = true := by
  induction h with
  | one h1 h2 h3 => exact fun hr => hr _ h1 _ h2 h3
  | more h1 h2 h3 _ ih => exact fun hr => ih fun o ho => hD _ o ho (getD_listed (hr _ h1 _ h2 h3))
theorem mask_anc {acc : List Nat} {j : Nat} : ∀ (l : List Edge) (s : Nat), (l.foldl (fun s e => if Region.binds .any e then s ||| 2 ^ e.on ||| acc.getD e.on 0 else s) s).testBit j = true →
    s.testBit j = true ∨ ∃ e ∈ l, Region.binds .any e = true ∧ (e.on = j ∨ (acc.getD e.on 0).testBit j = true)
  | [], s, h => .inl h
  | e :: l, s, h => by
    simp only [List.foldl_cons] at h
    rcases mask_anc l _ h with h | ⟨e', he', hb⟩
    · split at h
      · rename_i hb
        simp only [Nat.testBit_or, Bool.or_eq_true, Nat.testBit_two_pow, decide_eq_true_eq] at h
        rcases h with (h | h) | h
        · exact .inl h
        · exact .inr ⟨e, by simp, hb, .inl h⟩
        · exact .inr ⟨e, by simp, hb, .inr h⟩
      · exact .inl h
    · exact .inr ⟨e', by simp [he'], hb⟩
theorem ancGo_ok {ops : Array Oper} : ∀ (os : List Oper) (acc : List Nat), (∀ k, os[k]? = ops[acc.length + k]?) → (∀ i m, acc[i]? = some m → ∀ j, m.testBit j = true → Anc ops i j) →
    ∀ i m, (ancGo os acc)[i]? = some m → ∀ j, m.testBit j = true → Anc ops i j
  | [], acc, _, h => h
  | o :: os, acc, ho, h => by
    simp only [ancGo]
    refine ancGo_ok os _ (fun k => ?_) fun i m hi j hj => ?_
    · have := ho (k + 1)
      rw [List.getElem?_cons_succ] at this
      rw [this, List.length_append, List.length_singleton, Nat.add_assoc, Nat.add_comm 1 k]
    · by_cases hlt : i < acc.length
      · rw [List.getElem?_append_left hlt] at hi
        exact h i m hi j hj
      · rw [List.getElem?_append_right (by omega)] at hi
        have hi0 : i = acc.length := by
          have := (List.getElem?_eq_some_iff.mp hi).1
          simp at this
          omega
        subst hi0
        simp only [Nat.sub_self, List.getElem?_cons_zero, Option.some.injEq] at hi
        subst hi
        have h0 := ho 0
        simp only [List.getElem?_cons_zero, Nat.add_zero] at h0
        rcases mask_anc _ _ hj with hz | ⟨e, he, hb, hq⟩
        · simp at hz
        · have he' : e ∈ o.after := by simpa using he
          rcases hq with rfl | hq
          · exact .one h0.symm he' hb
          · refine .more h0.symm he' hb ?_
            cases hg : acc[e.on]? with
            | none => simp [List.getD, hg] at hq
            | some m' => exact h _ _ hg j (by simpa [List.getD, hg] using hq)

/-- The check of a region: of two operations, one waits for the other, or they may change places. -/
def regionB (fl : Bool) (ops : Array Oper) : Bool :=
  let a := ancGo ops.toList []
  (List.range ops.size).all fun i => match ops[i]? with
    | none => true
    | some oi => oi.after.toList.all (fun e => !Region.binds .any e || decide (e.on < i)) && (List.range i).all fun j => (a.getD i 0).testBit j || match ops[j]? with
      | some oj => commB fl ops oj oi
      | none => true
theorem regionB_spec {ops : Array Oper} (h : regionB fl ops = true) {i : Nat} {oi : Oper} (hi : ops[i]? = some oi) :
    (∀ e ∈ oi.after, Region.binds .any e = true → e.on < i) ∧ ∀ j oj, j < i → ops[j]? = some oj → Anc ops i j ∨ commB fl ops oj oi = true := by
  have hlt : i < ops.size := (Array.getElem?_eq_some_iff.mp hi).1
  simp only [regionB, List.all_eq_true, List.mem_range] at h
  have hh := h i hlt
  simp only [hi, Bool.and_eq_true, List.all_eq_true, List.mem_range] at hh
  refine ⟨fun e he hb => ?_, fun j oj hj hoj => ?_⟩
  · have := hh.1 e (by simpa using he)
    simpa [hb] using this
  · have := hh.2 j hj
    simp only [hoj, Bool.or_eq_true] at this
    rcases this with h1 | h1
    · refine .inl ?_
      cases hg : (ancGo ops.toList [])[i]? with
      | none => simp [List.getD, hg] at h1
      | some m => exact ancGo_ok ops.toList [] (fun k => by simp) (by simp) i m hg j (by simpa [List.getD, hg] using h1)
    · exact .inr h1

theorem arun_range {call : ACall} {ops : Array Oper} : ∀ (n k : Nat) (l : List Oper) (st : St), l.length = n → (∀ j, l[j]? = ops[k + j]?) → arun P call fl ops (List.range' k n) st = asteps P call fl ops l st
  | 0, k, l, st, hl, _ => by
    have : l = [] := List.eq_nil_of_length_eq_zero hl
    subst this
    rfl
  | n + 1, k, [], st, hl, _ => by simp at hl
  | n + 1, k, o :: l, st, hl, h => by
    have h0 : ops[k]? = some o := by simpa using (h 0).symm
    simp only [List.range'_succ, arun, h0, asteps]
    congr 1
    funext s
    exact arun_range n (k + 1) l s (by simpa using hl) fun j => by
      have := h (j + 1)
      rw [List.getElem?_cons_succ] at this
      rw [this, Nat.add_assoc, Nat.add_comm 1 j]

/-- A region that draws its order. -/
theorem drawn_sound (hm : P.follows .mixedOrders = true) {call : ACall} (hcall : CallOK P call) {ops : Array Oper} (hB : regionB fl ops = true) {Q : Exit → Act → World → Prop} {id : Nat} {G : Gh} {ow : Owner} {st sF : St} {a : Act} {w : World}
    (h : Rel G ow st a w) (hne : st.mems ≠ []) (e : asteps P (ACall.clean call) fl ops ops.toList st = some sF) (hn : ∀ a' w', Tr G ow w st.mems.length sF a' w' → Q .normal a' w') : (Code.region id ops true).wp P Q a w := by
  refine wp_region_any hm ?_
  have hunl : unl ops (Array.replicate ops.size false) = List.range' 0 ops.size := by
    rw [← List.range_eq_range']
    unfold unl
    rw [List.filter_eq_self]
    intro i hi
    rw [List.mem_range] at hi
    simp [Array.getD_eq_getD_getElem?, hi]
  have hrel : Rel G ow st a { w with drawn := w.drawn + 1 } := ⟨h.tmps, h.defers, h.mem.same_heap rfl⟩
  refine any_sound (fl := fl) hcall.clean (sF := sF) (fun i o hi => (regionB_spec hB hi).1) (fun listed i j o oj hD hr hi hu hlt hj => ?_) ops.size _ (by simp) ?_ ?_ hrel hne ?_ ?_
  · rcases (regionB_spec hB hi).2 j oj hlt hj with ha | hc
    · exfalso
      obtain ⟨_, o', ho', hd⟩ := ready_unl hr
      rw [hi] at ho'
      cases ho'
      have := ha.listed hD fun o'' ho'' => by rw [hi] at ho''; cases ho''; exact hd
      have := getD_listed this
      simp only [unl, List.mem_filter, Bool.not_eq_true'] at hu
      rw [this] at hu
      cases hu.2
    · exact comm_of hc
  · intro i o hi hl
    have hlt : i < ops.size := (Array.getElem?_eq_some_iff.mp hi).1
    simp [Array.getD_eq_getD_getElem?, hlt] at hl
  · rw [hunl]; simp
  · rw [hunl, arun_range ops.size 0 ops.toList st (by simp) (fun j => by simp)]
    exact e
  · intro a' w' ht
    obtain ⟨G', ow', g1, g2, g3, g4⟩ := ht
    exact hn a' w' ⟨G', ow', g1, (Fr.same_heap (w := w) (w' := { w with drawn := w.drawn + 1 }) rfl ⟨rfl, rfl, rfl⟩).trans g2, g3, g4⟩
end Go.Proofs.Ytjbmdfdgeioecaa.Am
/- The abstract machine, part 19: what is let go at a loop's head; code. -/
namespace Go.Proofs.Ytjbmdfdgeioecaa.Am
set_option linter.unusedVariables false
set_option linter.unusedSimpArgs false
variable {P : Program}

/-- What is done ahead of a region: a row's slot for an empty slice (in a temporary, or in a cell of it); a row becomes a pure value. -/
inductive Prep where
  | seed (t : Nat) (j : Option Nat) (s z : Nat)
  | freeze (s : Nat) (row : Bool)
  | noRows
  | mark (s z : Nat)
  deriving Inhabited
/-- What a loop's head lets go: temporaries, variables, rows (by their slots). It may be anything. -/
structure Hint where
  tmps : List Nat
  vars : List Nat
  rows : List Nat
  preps : List Prep
  deriving Inhabited

mutual
def AV.forget (d : Nat) (h : Hint) : AV → AV
  | .own loc s es => if loc.getD d = d ∧ h.rows.contains s = true then .pv (.slc es) else .own loc s es
  | .ptr loc s off => if loc.getD d = d ∧ h.vars.contains s = true then .junk else .ptr loc s off
  | .mref loc s => if loc.getD d = d ∧ h.vars.contains s = true then .junk else .mref loc s
  | .ments ks xs => .ments ks (forgets d h xs)
  | .row loc s v n => if loc.getD d = d ∧ h.vars.contains s = true then .junk else .row loc s v n
  | .rptr loc s v off => if loc.getD d = d ∧ h.vars.contains s = true then .junk else .rptr loc s v off
  | .prow es => .prow (forgets d h es)
  | .cptr q x => .cptr q (x.forget d h)
  | .agg cs => .agg (forgets d h cs)
  | .tup cs => .tup (forgets d h cs)
  | .func f first caps => .func f (forgets d h first) (forgets d h caps)
  | x => x
def forgets (d : Nat) (h : Hint) : List AV → List AV
  | [] => []
  | x :: xs => x.forget d h :: forgets d h xs
end
/-- Runs of temporaries that are kept (false) and let go (true), in turn. -/
def scrubs (b : Bool) (rest : List AV → List AV) : Nat → List AV → List AV
  | 0, xs => rest xs
  | _ + 1, [] => []
  | n + 1, x :: xs => (if b then .junk else x) :: scrubs b rest n xs
def scrub : Bool → List Nat → List AV → List AV
  | _, [], xs => xs
  | b, n :: l, xs => scrubs b (scrub (!b) l) n xs
theorem ARs.scrubs {G : Gh} {d : Nat} {b : Bool} {rest : List AV → List AV} (hr : ∀ {xs : List AV} {vs : List Value}, ARs G d xs vs → ARs G d (rest xs) vs) : ∀ (n : Nat) {xs : List AV} {vs : List Value}, ARs G d xs vs → ARs G d (scrubs b rest n xs) vs
  | 0, xs, vs, r => hr r
  | n + 1, [], vs, r => by simpa only [Am.scrubs, ARs] using r
  | n + 1, c :: cs, vs, r => by
    simp only [Am.scrubs, ARs] at r ⊢
    obtain ⟨u, us, e, r1, r2⟩ := r
    refine ⟨u, us, e, ?_, ARs.scrubs hr n r2⟩
    split
    · simp only [AR]
    · exact r1
theorem ARs.scrub {G : Gh} {d : Nat} : ∀ (b : Bool) (l : List Nat) {xs : List AV} {vs : List Value}, ARs G d xs vs → ARs G d (scrub b l xs) vs
  | _, [], xs, vs, r => r
  | b, n :: l, xs, vs, r => ARs.scrubs (fun r => ARs.scrub (!b) l r) n r
def dropVars (d : Nat) (h : Hint) : List (Nat × List AV) → List (Nat × List AV)
  | [] => []
  | (s, cs) :: l => if h.vars.contains s then dropVars d h l else (s, forgets d h cs) :: dropVars d h l
def dropRows (ks : List Nat) : List (Nat × Nat × Nat) → List (Nat × Nat × Nat)
  | [] => []
  | (s, t) :: l => (if ks.contains s then (s, (0, 0)) else (s, t)) :: dropRows ks l
def St.forget (h : Hint) (st : St) : St :=
  match st.mems with
  | [] => st
  | m :: ms => { tmps := forgets ms.length h (scrub false h.tmps st.tmps), mems := { vars := dropVars ms.length h m.vars, toks := dropRows h.rows m.toks } :: ms }

def Gh.cut (G : Gh) (d : Nat) (h : Hint) : Gh :=
  { M := G.M, φ := fun d' s => if d' = d ∧ h.vars.contains s = true then none else G.φ d' s, τ := fun d' s => if d' = d ∧ h.rows.contains s = true then none else G.τ d' s, ρ := fun d' s => if d' = d ∧ h.vars.contains s = true then none else G.ρ d' s }
theorem Gh.cut_upto (G : Gh) (d : Nat) (h : Hint) : G.upto d (G.cut d h) :=
  ⟨Prot.le_refl _, fun d' s b hd e => by simp only [Gh.cut]; rw [if_neg (by omega)]; exact e, fun d' s t hd e => ⟨t, by simp only [Gh.cut]; rw [if_neg (by omega)]; exact e, t.le_refl⟩, fun d' s t hd e => ⟨t, by simp only [Gh.cut]; rw [if_neg (by omega)]; exact e, t.le_refl⟩⟩

mutual
theorem AR.forget {G : Gh} {d : Nat} (h : Hint) : ∀ {x : AV} {v : Value}, AR G d x v → AR (G.cut d h) d (x.forget d h) v
  | .pv p, v, r => by simpa only [AV.forget, AR, Gh.cut] using r
  | .full es, v, r => by simpa only [AV.forget, AR, Gh.cut] using r
  | .own loc s es, v, r => by
    simp only [AV.forget]
    simp only [AR] at r
    obtain ⟨r0, r1, t, ht, r2⟩ := r
    split
    · simp only [AR]; exact r1
    · rename_i hc
      simp only [AR]
      refine ⟨r0, r1, t, ?_, r2⟩
      simp only [Gh.cut]
      rw [if_neg hc]
      exact ht
  | .agg cs, v, r => by
    simp only [AV.forget, AR] at r ⊢
    obtain ⟨vs, e, r⟩ := r
    exact ⟨vs, e, ARs.forgets h r⟩
  | .tup cs, v, r => by
    simp only [AV.forget, AR] at r ⊢
    obtain ⟨vs, e, r⟩ := r
    exact ⟨vs, e, ARs.forgets h r⟩
  | .ptr loc s off, v, r => by
    simp only [AV.forget]
    simp only [AR] at r
    obtain ⟨r0, b, hb, e⟩ := r
    split
    · simp only [AR]
    · rename_i hc
      simp only [AR]
      refine ⟨r0, b, ?_, e⟩
      simp only [Gh.cut]
      rw [if_neg hc]
      exact hb
  | .mref loc s, v, r => by
    simp only [AV.forget]
    simp only [AR] at r
    obtain ⟨r0, b, hb, e⟩ := r
    split
    · simp only [AR]
    · rename_i hc
      simp only [AR]
      refine ⟨r0, b, ?_, e⟩
      simp only [Gh.cut]
      rw [if_neg hc]
      exact hb
  | .ments ks xs, v, r => by simp only [AR] at r
  | .mrw _ _ _, v, r => by simp only [AR] at r
  | .row loc s ver n, v, r => by
    simp only [AV.forget]
    simp only [AR] at r
    obtain ⟨r0, t, base, cap, ht, r1⟩ := r
    split
    · simp only [AR]
    · rename_i hc
      simp only [AR]
      refine ⟨r0, t, base, cap, ?_, r1⟩
      simp only [Gh.cut]
      rw [if_neg hc]
      exact ht
  | .rptr loc s ver off, v, r => by
    simp only [AV.forget]
    simp only [AR] at r
    obtain ⟨r0, t, b, ht, r1⟩ := r
    split
    · simp only [AR]
    · rename_i hc
      simp only [AR]
      refine ⟨r0, t, b, ?_, r1⟩
      simp only [Gh.cut]
      rw [if_neg hc]
      exact ht
  | .prow es, v, r => by
    simp only [AV.forget, AR] at r ⊢
    obtain ⟨b, vs, e, r1, r2⟩ := r
    have r1' := ARs.forgets h r1
    have hl := r1'.length
    have hl' := r1.length
    exact ⟨b, vs, by rw [hl, ← hl']; exact e, r1', r2⟩
  | .cptr q x, v, r => by
    simp only [AV.forget, AR] at r ⊢
    obtain ⟨b, u, e, hu, r1⟩ := r
    exact ⟨b, u, e, hu, AR.forget h r1⟩
  | .eptr cs, v, r => by simpa only [AV.forget, AR, Gh.cut] using r
  | .func f first caps, v, r => by
    simp only [AV.forget, AR] at r ⊢
    obtain ⟨us, vs, e, r1, r2⟩ := r
    exact ⟨us, vs, e, ARs.forgets h r1, ARs.forgets h r2⟩
  | .junk, v, r => by simp only [AV.forget, AR]
theorem ARs.forgets {G : Gh} {d : Nat} (h : Hint) : ∀ {xs : List AV} {vs : List Value}, ARs G d xs vs → ARs (G.cut d h) d (forgets d h xs) vs
  | [], vs, r => by simpa only [Am.forgets, ARs] using r
  | c :: cs, vs, r => by
    simp only [Am.forgets, ARs] at r ⊢
    obtain ⟨u, us, e, r1, r2⟩ := r
    exact ⟨u, us, e, AR.forget h r1, ARs.forgets h r2⟩
end
theorem VR.forgets {G : Gh} {d : Nat} (h : Hint) {cs : List AV} {o : Obj} (r : VR G d cs o) : VR (G.cut d h) d (Am.forgets d h cs) o := by
  rcases r with ⟨vs, e, r1, r2⟩ | ⟨ks, xs, es, clock, r1, r2, r3, r4, r5, r6⟩
  · exact .inl ⟨vs, e, r1, ARs.forgets h r2⟩
  · subst r1
    exact .inr ⟨ks, Am.forgets d h xs, es, clock, by simp only [Am.forgets, AV.forget], r2, r3, fun i k e h1 h2 => r4 i k e h1 h2, ARs.forgets h r5, r6⟩
theorem lookup_dropVars (d : Nat) (h : Hint) : ∀ (l : List (Nat × List AV)) (s : Nat), (dropVars d h l).lookup s = if h.vars.contains s then none else (l.lookup s).map (forgets d h)
  | [], s => by simp [dropVars]
  | (s', cs) :: l, s => by
    simp only [dropVars]
    have ih := lookup_dropVars d h l s
    by_cases hs : s = s'
    · subst hs
      split
      · rename_i hc
        rw [ih, if_pos hc]
      · rename_i hc
        simp [List.lookup]
    · have hb : (s == s') = false := by simp [hs]
      split
      · rw [ih]; simp [List.lookup, hb]
      · simp only [List.lookup, hb, ih]
theorem lookup_dropRows (ks : List Nat) : ∀ (l : List (Nat × Nat × Nat)) (s : Nat), (dropRows ks l).lookup s = (l.lookup s).map fun t => if ks.contains s then (0, 0) else t
  | [], s => by simp [dropRows]
  | (s', t) :: l, s => by
    simp only [dropRows]
    have ih := lookup_dropRows ks l s
    by_cases hs : s = s'
    · subst hs
      split <;> simp_all [List.lookup]
    · have hb : (s == s') = false := by simp [hs]
      split <;> simp only [List.lookup, hb, ih]

theorem Gh.upto.trans {k : Nat} {G G' G'' : Gh} (h : G.upto k G') (h' : G'.upto k G'') : G.upto k G'' :=
  ⟨Prot.le_trans h.M h'.M, fun d s b hd e => h'.φ d s b hd (h.φ d s b hd e), fun d s t hd e => by
    obtain ⟨t1, e1, l1⟩ := h.τ d s t hd e
    obtain ⟨t2, e2, l2⟩ := h'.τ d s t1 hd e1
    exact ⟨t2, e2, Tok.le_trans l1 l2⟩, fun d s t hd e => by
    obtain ⟨t1, e1, l1⟩ := h.ρ d s t hd e
    obtain ⟨t2, e2, l2⟩ := h'.ρ d s t1 hd e1
    exact ⟨t2, e2, Tok.le_trans l1 l2⟩⟩
theorem Gh.le.upto {k : Nat} {G G' : Gh} (h : G.le G') : G.upto k G' := ⟨h.M, fun d s b _ e => h.φ d s b e, fun d s t _ e => h.τ d s t e, fun d s t _ e => h.ρ d s t e⟩
theorem Gh.upto.mono {k j : Nat} {G G' : Gh} (h : G.upto k G') (hj : j ≤ k) : G.upto j G' :=
  ⟨h.M, fun d s b hd e => h.φ d s b (by omega) e, fun d s t hd e => h.τ d s t (by omega) e, fun d s t hd e => h.ρ d s t (by omega) e⟩

theorem forget_sound {G : Gh} {ow : Owner} {st : St} {a : Act} {w : World} (h : Rel G ow st a w) (hi : Hint) :
    ∃ G', G.upto (st.mems.length - 1) G' ∧ Fr G G' ow ow w w ∧ Rel G' ow (st.forget hi) a w ∧ (st.forget hi).mems.length = st.mems.length := by
  obtain ⟨tmps, mems⟩ := st
  cases mems with
  | nil => exact ⟨G, ⟨Prot.le_refl _, fun _ _ _ _ e => e, fun _ _ t _ e => ⟨t, e, t.le_refl⟩, fun _ _ t _ e => ⟨t, e, t.le_refl⟩⟩, Fr.refl G ow w, h, rfl⟩
  | cons m ms =>
    obtain ⟨h1, h2, h3⟩ := h
    have hu := G.cut_upto ms.length hi
    refine ⟨G.cut ms.length hi, by simpa using hu, ⟨Nat.le_refl _, fun _ _ _ => rfl, fun _ _ _ _ => rfl, fun _ _ h => h, rfl, rfl, rfl⟩, ⟨?_, h2, ?_⟩, rfl⟩
    · have hd : (St.mk tmps (m :: ms)).d = ms.length := rfl
      rw [hd] at h1
      exact ARs.forgets hi (ARs.scrub false hi.tmps h1)
    · have hmrw : ∀ {cs0 : List AV} {v z : Nat} {l : List PV}, forgets ms.length hi cs0 = [.mrw v z l] → cs0 = [.mrw v z l] := by
        intro cs0 v z l hq
        match cs0, hq with
        | [x], hq =>
          simp only [forgets, List.cons.injEq, and_true] at hq
          cases x <;> simp only [AV.forget] at hq <;> first
            | (split at hq <;> cases hq; done)
            | (cases hq; done)
            | (simp only [AV.mrw.injEq] at hq; obtain ⟨rfl, rfl, rfl⟩ := hq; rfl)
        | [], hq => simp [forgets] at hq
        | _ :: _ :: _, hq => simp [forgets] at hq
      have hnrw : ∀ {cs0 : List AV}, notRw (forgets ms.length hi cs0) = true → notRw cs0 = true := fun {cs0} hq => notRw_of fun v z l e => by
        subst e
        simp [forgets, AV.forget, notRw] at hq
      refine ⟨h3.prot, fun d s cs hv hnr => ?_, fun d s n z ht => ?_, fun d s b hb => ?_, fun d s t ht => ?_, h3.owlt, fun d s ver z cs hv => ?_, fun d s t ht => ?_, h3.glob⟩
      · simp only [St.forget] at hv
        by_cases hd : d = ms.length
        · subst hd
          simp only [varAt, memAt, if_true, Option.bind_some, lookup_dropVars] at hv
          split at hv
          · cases hv
          · rename_i hc
            simp only [Option.map_eq_some_iff] at hv
            obtain ⟨cs0, hv, rfl⟩ := hv
            obtain ⟨b, ob, g1, g2, g3, g4, g5⟩ := h3.var ms.length s cs0 (by simp only [varAt, memAt, if_true, Option.bind_some]; exact hv) (hnrw hnr)
            refine ⟨b, ob, ?_, g2, g3, VR.forgets hi g4, g5⟩
            simp only [Gh.cut]
            rw [if_neg (fun hq => hc hq.2)]
            exact g1
        · simp only [varAt, memAt, hd, if_false] at hv
          obtain ⟨b, ob, g1, g2, g3, g4, g5⟩ := h3.var d s cs (by simp only [varAt, memAt, hd, if_false]; exact hv) hnr
          have hlt : d < ms.length := by
            cases hq : memAt ms d with
            | none => simp [hq] at hv
            | some m' => exact memAt_lt hq
          refine ⟨b, ob, ?_, g2, g3, VR.uptos (hu.mono (by omega)) g4, g5⟩
          simp only [Gh.cut]
          rw [if_neg (by omega)]
          exact g1
      · simp only [St.forget] at ht
        by_cases hd : d = ms.length
        · subst hd
          simp only [tokAt, memAt, if_true, Option.bind_some, lookup_dropRows, Option.filter_eq_some_iff, Option.map_eq_some_iff] at ht
          obtain ⟨⟨t, ht, hc⟩, hz⟩ := ht
          by_cases hk : hi.rows.contains s = true
          · rw [if_pos hk] at hc
            simp only [Prod.mk.injEq] at hc
            rw [← hc.1] at hz
            simp at hz
          · rw [if_neg hk] at hc
            subst hc
            obtain ⟨t', g1, g2, g3, g4, g5⟩ := h3.tok ms.length s n z (by simp only [tokAt, memAt, if_true, Option.bind_some, ht, Option.filter_eq_some_iff]; exact ⟨trivial, hz⟩)
            refine ⟨t', ?_, g2, g3, g4, g5⟩
            simp only [Gh.cut]
            rw [if_neg (fun hq => hk hq.2)]
            exact g1
        · simp only [tokAt, memAt, hd, if_false] at ht
          obtain ⟨t', g1, g2⟩ := h3.tok d s n z (by simp only [tokAt, memAt, hd, if_false]; exact ht)
          refine ⟨t', ?_, g2⟩
          simp only [Gh.cut]
          rw [if_neg (by simp [hd])]
          exact g1
      · simp only [Gh.cut] at hb
        split at hb
        · cases hb
        · rename_i hc
          have hv := h3.φsome d s b hb
          simp only [St.forget]
          by_cases hd : d = ms.length
          · subst hd
            simp only [varAt, memAt, if_true, Option.bind_some] at hv ⊢
            rw [lookup_dropVars, if_neg (by simpa using hc)]
            simpa using hv
          · simp only [varAt, memAt, hd, if_false] at hv ⊢
            exact hv
      · simp only [Gh.cut] at ht
        split at ht
        · cases ht
        · rename_i hc
          obtain ⟨z, hv⟩ := h3.τsome d s t ht
          refine ⟨z, ?_⟩
          simp only [St.forget]
          by_cases hd : d = ms.length
          · subst hd
            simp only [tokAt, memAt, if_true, Option.bind_some] at hv ⊢
            have hk : ¬ hi.rows.contains s = true := fun hq => hc ⟨rfl, hq⟩
            simp only [lookup_dropRows, hk, if_false]
            simpa using hv
          · simp only [tokAt, memAt, hd, if_false] at hv ⊢
            exact hv
      · simp only [St.forget] at hv
        by_cases hd : d = ms.length
        · subst hd
          simp only [varAt, memAt, if_true, Option.bind_some, lookup_dropVars] at hv
          split at hv
          · cases hv
          · rename_i hc
            simp only [Option.map_eq_some_iff] at hv
            obtain ⟨cs0, hv, he⟩ := hv
            obtain rfl := hmrw he
            obtain ⟨t, g1, g2⟩ := h3.row ms.length s ver z cs (by simp only [varAt, memAt, if_true, Option.bind_some]; exact hv)
            refine ⟨t, ?_, g2⟩
            simp only [Gh.cut]
            rw [if_neg (fun hq => hc hq.2)]
            exact g1
        · simp only [varAt, memAt, hd, if_false] at hv
          have hv' : varAt (m :: ms) d s = some [.mrw ver z cs] := by simp only [varAt, memAt, hd, if_false]; exact hv
          obtain ⟨t, g1, g2⟩ := h3.row d s ver z cs hv'
          refine ⟨t, ?_, g2⟩
          simp only [Gh.cut]
          rw [if_neg (fun hq => hd hq.1)]
          exact g1
      · simp only [Gh.cut] at ht
        split at ht
        · cases ht
        · rename_i hc
          obtain ⟨z, cs, hv⟩ := h3.ρsome d s t ht
          by_cases hd : d = ms.length
          · subst hd
            refine ⟨z, cs, ?_⟩
            simp only [St.forget]
            simp only [varAt, memAt, if_true, Option.bind_some] at hv ⊢
            rw [lookup_dropVars, if_neg (fun hq => hc ⟨rfl, hq⟩), hv]
            simp [forgets, AV.forget]
          · refine ⟨z, cs, ?_⟩
            simp only [St.forget]
            simp only [varAt, memAt, hd, if_false] at hv ⊢
            exact hv
end Go.Proofs.Ytjbmdfdgeioecaa.Am
/- The abstract machine, part 19b: ahead of a region: a row's slot for an empty slice; a row that is not written any more. -/
namespace Go.Proofs.Ytjbmdfdgeioecaa.Am
set_option linter.unusedVariables false
set_option linter.unusedSimpArgs false
variable {P : Program}

mutual
/-- A row that is a pure value from here on. -/
def AV.frz (d s ver n : Nat) (p : PV) : AV → AV
  | .row loc s' v n' => if loc.getD d = d ∧ s' = s then (if v = ver ∧ n' = n then .pv p else .junk) else .row loc s' v n'
  | .rptr loc s' v off => if loc.getD d = d ∧ s' = s then .junk else .rptr loc s' v off
  | .ptr loc s' off => if loc.getD d = d ∧ s' = s then .junk else .ptr loc s' off
  | .mref loc s' => if loc.getD d = d ∧ s' = s then .junk else .mref loc s'
  | .prow es => .prow (frzs d s ver n p es)
  | .cptr q x => .cptr q (x.frz d s ver n p)
  | .ments ks xs => .ments ks (frzs d s ver n p xs)
  | .agg cs => .agg (frzs d s ver n p cs)
  | .tup cs => .tup (frzs d s ver n p cs)
  | .func f first caps => .func f (frzs d s ver n p first) (frzs d s ver n p caps)
  | x => x
def frzs (d s ver n : Nat) (p : PV) : List AV → List AV
  | [] => []
  | x :: xs => x.frz d s ver n p :: frzs d s ver n p xs
end
def frzVars (d s ver n : Nat) (p : PV) : List (Nat × List AV) → List (Nat × List AV)
  | [] => []
  | (s', cs) :: l => if s' = s then frzVars d s ver n p l else (s', frzs d s ver n p cs) :: frzVars d s ver n p l
theorem frzs_length (d s ver n : Nat) (p : PV) (l : List AV) : (frzs d s ver n p l).length = l.length := by
  induction l with
  | nil => rfl
  | cons x l ih => simp [frzs, ih]
theorem lookup_frzVars (d s ver n : Nat) (p : PV) : ∀ (l : List (Nat × List AV)) (s' : Nat), (frzVars d s ver n p l).lookup s' = if s' = s then none else (l.lookup s').map (frzs d s ver n p)
  | [], s' => by simp [frzVars]
  | (t, cs) :: l, s' => by
    simp only [frzVars]
    have ih := lookup_frzVars d s ver n p l s'
    by_cases ht : t = s
    · subst ht
      rw [if_pos rfl, ih]
      by_cases hs : s' = t
      · simp [hs]
      · have hb : (s' == t) = false := by simp [hs]
        simp [hs, List.lookup, hb]
    · rw [if_neg ht]
      by_cases hs : s' = t
      · subst hs
        simp [List.lookup, ht]
      · have hb : (s' == t) = false := by simp [hs]
        simp only [List.lookup, hb, ih]

def St.seed (st : St) (t : Nat) (x : AV) (s z : Nat) : Option St :=
  if (varAt st.mems st.d s).isNone ∧ st.mems ≠ [] then some ⟨st.tmps.set t x, setVar st.mems st.d s [.mrw 0 z []]⟩ else none
def frzTop (tmps : List AV) (m : Mem) (ms : List Mem) (s ver n : Nat) (p : PV) : St :=
  ⟨frzs ms.length s ver n p tmps, { vars := frzVars ms.length s ver n p m.vars, toks := m.toks } :: ms⟩
def frzGo (tmps : List AV) (m : Mem) (ms : List Mem) (s : Nat) (row : Bool) (ver z n : Nat) (ps : List PV) : Option St :=
  if 0 < z ∧ ps.length = n * z ∧ (row = true ∨ z = 1) then some (frzTop tmps m ms s ver n (.slc (chunks row z n ps))) else none
def St.prep1 (st : St) : Prep → Option St
  | .seed t none s z => match st.tmps[t]? with
    | some (.full []) => st.seed t (.row none s 0 0) s z
    | _ => none
  | .seed t (some j) s z => match st.tmps[t]? with
    | some (.agg cs) => match cs[j]? with
      | some (.full []) => st.seed t (.agg (cs.set j (.row none s 0 0))) s z
      | _ => none
    | _ => none
  | .noRows => some st
  | .mark s z => if (varAt st.mems st.d s).isNone ∧ st.mems ≠ [] then some ⟨st.tmps, setVar st.mems st.d s [.mrw 0 z []]⟩ else none
  | .freeze s row => match st.mems with
    | m :: ms => match m.vars.lookup s with
      | some [.mrw ver z cs] => frzGo st.tmps m ms s row ver z (cs.length / z) cs
      | _ => none
    | [] => none
def St.preps : List Prep → St → Option St
  | [], st => some st
  | p :: ps, st => (st.prep1 p).bind (St.preps ps)

/-- Whether a region is to be run without loads from rows that may be written. -/
def flagOf (l : List Prep) : Bool := l.any fun p => match p with | .noRows => true | _ => false

def Gh.fz (G : Gh) (d s : Nat) (N : Prot) : Gh :=
  { M := fun b o => match G.M b o with | some v => some v | none => N b o, φ := fun d' s' => if d' = d ∧ s' = s then none else G.φ d' s', τ := G.τ, ρ := fun d' s' => if d' = d ∧ s' = s then none else G.ρ d' s' }
theorem Gh.fz_M (G : Gh) (d s : Nat) (N : Prot) : G.M.le (G.fz d s N).M := fun b o v h => by simp [Gh.fz, h]
theorem Gh.fz_upto (G : Gh) (d s : Nat) (N : Prot) : G.upto d (G.fz d s N) :=
  ⟨G.fz_M d s N, fun d' s' b hd e => by simp only [Gh.fz]; rw [if_neg (by omega)]; exact e, fun _ _ t _ e => ⟨t, e, t.le_refl⟩, fun d' s' t hd e => ⟨t, by simp only [Gh.fz]; rw [if_neg (by omega)]; exact e, t.le_refl⟩⟩

mutual
theorem AR.frz {G : Gh} {d s ver n : Nat} {p : PV} {N : Prot} (hp : ∀ tk, G.ρ d s = some tk → tk.len = ver ∧ PR (G.fz d s N).M p (.slice tk.base n tk.cap)) : ∀ {x : AV} {v : Value}, AR G d x v → AR (G.fz d s N) d (x.frz d s ver n p) v
  | .pv q, v, r => by simp only [AV.frz, AR] at r ⊢; exact r.mono (G.fz_M d s N)
  | .full es, v, r => by simp only [AV.frz, AR] at r ⊢; exact ⟨r.1.mono (G.fz_M d s N), r.2⟩
  | .own loc s' es, v, r => by
    simp only [AV.frz, AR] at r ⊢
    obtain ⟨r0, r1, t, ht, r2⟩ := r
    exact ⟨r0, r1.mono (G.fz_M d s N), t, ht, r2⟩
  | .agg cs, v, r => by
    simp only [AV.frz, AR] at r ⊢
    obtain ⟨vs, e, r⟩ := r
    exact ⟨vs, e, ARs.frzs hp r⟩
  | .tup cs, v, r => by
    simp only [AV.frz, AR] at r ⊢
    obtain ⟨vs, e, r⟩ := r
    exact ⟨vs, e, ARs.frzs hp r⟩
  | .ptr loc s' off, v, r => by
    simp only [AV.frz]
    simp only [AR] at r
    obtain ⟨r0, b, hb, e⟩ := r
    split
    · simp only [AR]
    · rename_i hc
      simp only [AR]
      refine ⟨r0, b, ?_, e⟩
      simp only [Gh.fz]
      rw [if_neg hc]
      exact hb
  | .mref loc s', v, r => by
    simp only [AV.frz]
    simp only [AR] at r
    obtain ⟨r0, b, hb, e⟩ := r
    split
    · simp only [AR]
    · rename_i hc
      simp only [AR]
      refine ⟨r0, b, ?_, e⟩
      simp only [Gh.fz]
      rw [if_neg hc]
      exact hb
  | .eptr cs, v, r => by
    simp only [AV.frz, AR] at r ⊢
    obtain ⟨b, o, e, r⟩ := r
    refine ⟨b, o, e, fun j c hc => ?_⟩
    obtain ⟨u, hu, hq⟩ := r j c hc
    exact ⟨u, G.fz_M d s N _ _ _ hu, hq.mono (G.fz_M d s N)⟩
  | .func f first caps, v, r => by
    simp only [AV.frz, AR] at r ⊢
    obtain ⟨us, vs, e, r1, r2⟩ := r
    exact ⟨us, vs, e, ARs.frzs hp r1, ARs.frzs hp r2⟩
  | .ments ks xs, v, r => by simp only [AR] at r
  | .mrw _ _ _, v, r => by simp only [AR] at r
  | .row loc s' v' n', v, r => by
    simp only [AV.frz]
    simp only [AR] at r
    obtain ⟨r0, t, base, cap, ht, hv, e, hn, hb, he⟩ := r
    split
    · rename_i hc
      split
      · rename_i hq
        obtain ⟨h1, h2⟩ := hq
        rw [hc.1, hc.2] at ht
        obtain ⟨k1, k2⟩ := hp t ht
        obtain ⟨e1, e2⟩ := he (by omega)
        simp only [AR]
        rw [e, e1, e2, h2]
        exact k2
      · simp only [AR]
    · rename_i hc
      simp only [AR]
      refine ⟨r0, t, base, cap, ?_, hv, e, hn, hb, he⟩
      simp only [Gh.fz]
      rw [if_neg hc]
      exact ht
  | .rptr loc s' v' off, v, r => by
    simp only [AV.frz]
    simp only [AR] at r
    obtain ⟨r0, t, b, ht, r1⟩ := r
    split
    · simp only [AR]
    · rename_i hc
      simp only [AR]
      refine ⟨r0, t, b, ?_, r1⟩
      simp only [Gh.fz]
      rw [if_neg hc]
      exact ht
  | .prow es, v, r => by
    simp only [AV.frz, AR] at r ⊢
    obtain ⟨b, vs, e, r1, r2⟩ := r
    exact ⟨b, vs, by rw [frzs_length]; exact e, ARs.frzs hp r1, fun j u hu => G.fz_M d s N _ _ _ (r2 j u hu)⟩
  | .cptr q x, v, r => by
    simp only [AV.frz, AR] at r ⊢
    obtain ⟨b, u, e, hu, r1⟩ := r
    exact ⟨b, u, e, G.fz_M d s N _ _ _ hu, AR.frz hp r1⟩
  | .junk, v, r => by simp only [AV.frz, AR]
theorem ARs.frzs {G : Gh} {d s ver n : Nat} {p : PV} {N : Prot} (hp : ∀ tk, G.ρ d s = some tk → tk.len = ver ∧ PR (G.fz d s N).M p (.slice tk.base n tk.cap)) : ∀ {xs : List AV} {vs : List Value}, ARs G d xs vs → ARs (G.fz d s N) d (Am.frzs d s ver n p xs) vs
  | [], vs, r => by simpa only [Am.frzs, ARs] using r
  | c :: cs, vs, r => by
    simp only [Am.frzs, ARs] at r ⊢
    obtain ⟨u, us, e, r1, r2⟩ := r
    exact ⟨u, us, e, AR.frz hp r1, ARs.frzs hp r2⟩
end

theorem freeze_sound {G : Gh} {ow : Owner} {tmps : List AV} {m : Mem} {ms : List Mem} {a : Act} {w : World} (h : Rel G ow ⟨tmps, m :: ms⟩ a w) {s ver z n : Nat} {row : Bool} {ps : List PV}
    (hs : m.vars.lookup s = some [.mrw ver z ps]) (hz : 0 < z) (hl : ps.length = n * z) (hrow : row = true ∨ z = 1) :
    ∃ G', G.upto ms.length G' ∧ Fr G G' ow ow w w ∧ Rel G' ow (frzTop tmps m ms s ver n (.slc (chunks row z n ps))) a w := by
  obtain ⟨h1, h2, h3⟩ := h
  have hd0 : (St.mk tmps (m :: ms)).d = ms.length := rfl
  rw [hd0] at h1
  have hva : varAt (m :: ms) ms.length s = some [.mrw ver z ps] := by simp only [varAt, memAt, if_true, Option.bind_some]; exact hs
  obtain ⟨tk, k1, k2, k3, k4, k5⟩ := h3.row _ _ _ _ _ hva
  have hone : ∀ p ∈ ps, p.cells = [p] := by
    by_cases hc : 0 < tk.cap
    · obtain ⟨b, vs, e, _, _, _, _, g5, _⟩ := k5 hc
      have : ∀ {l : List PV} {us : List Value}, PRs G.M l us → ∀ p ∈ l, p.cells = [p] := by
        intro l us hp
        induction hp with
        | nil => simp
        | cons h1 _ ih =>
          intro p hm
          rcases List.mem_cons.mp hm with rfl | hm
          · exact h1.one.1
          · exact ih p hm
      exact this g5
    · have : tk.cap = 0 := by omega
      rw [this, Nat.zero_mul] at k4
      have : ps = [] := List.eq_nil_of_length_eq_zero (Nat.le_zero.mp k4)
      subst this
      simp
  obtain ⟨c1, c2⟩ := chunks_flat (row := row) hrow n ps hl hone
  -- what comes under protection
  obtain ⟨N, hN1, hN2, hN3⟩ : ∃ N : Prot, (∀ b o v, N b o = some v → ow b = some (true, ms.length, s) ∧ w.cell? ⟨b, o, none⟩ = some v) ∧ (∀ b o, N b o ≠ none → ∀ o', G.M b o' = none) ∧
      PR (G.fz ms.length s N).M (.slc (chunks row z n ps)) (.slice tk.base n tk.cap) := by
    by_cases hc : 0 < tk.cap
    · obtain ⟨b, vs, e, g1, g2, g3, g4, g5, g6⟩ := k5 hc
      refine ⟨rowProt b (vs.extract 0 ps.length), fun b' o v hv => ?_, fun b' o hv o' => ?_, ?_⟩
      · simp only [rowProt] at hv
        split at hv
        · rename_i hb
          subst hb
          refine ⟨g2, ?_⟩
          rw [cell_of_block g3]
          rw [Array.getElem?_extract] at hv
          split at hv
          · simpa using hv
          · cases hv
        · cases hv
      · simp only [rowProt] at hv
        split at hv
        · rename_i hb; subst hb; exact g6 o'
        · exact absurd rfl hv
      · have hP := g5
        have hcap : n ≤ tk.cap := by rw [hl] at k4; exact Nat.le_of_mul_le_mul_right k4 hz
        rw [g1]
        have := PR.of_flat (M := (G.fz ms.length s (rowProt b (vs.extract 0 ps.length))).M) (size := z) (b := b) (o := 0) (cap := tk.cap) (es := chunks row z n ps) (us := vs.toList.take ps.length) c2
          (by rw [c1]; exact hP.mono (G.fz_M _ _ _)) (fun j u hj => by
            rw [Nat.zero_add]
            simp only [Gh.fz, g6 j, rowProt, if_true]
            rw [Array.getElem?_extract]
            rw [List.getElem?_take] at hj
            split at hj
            · rename_i hlt
              have hlt2 := (List.getElem?_eq_some_iff.mp hj).1
              simp only [Array.length_toList] at hlt2
              rw [if_pos (by omega)]
              simpa using hj
            · cases hj) (by rw [chunks_length]; exact hcap)
        rw [chunks_length] at this
        exact this
    · have hn0 : n = 0 := by
        have hP : ps.length = 0 := by
          have : tk.cap = 0 := by omega
          rw [this, Nat.zero_mul] at k4
          omega
        rw [hP] at hl
        rcases Nat.mul_eq_zero.mp hl.symm with h0 | h0
        · exact h0
        · omega
      subst hn0
      exact ⟨fun _ _ => none, fun _ _ _ h => (by cases h), fun _ _ h => absurd rfl h, .nil _ _⟩
  have hp : ∀ tk', G.ρ ms.length s = some tk' → tk'.len = ver ∧ PR (G.fz ms.length s N).M (.slc (chunks row z n ps)) (.slice tk'.base n tk'.cap) := fun tk' ht => by
    rw [k1] at ht
    cases ht
    exact ⟨k2, hN3⟩
  have hu := G.fz_upto ms.length s N
  have hM : ∀ b o, ow b ≠ some (true, ms.length, s) → (G.fz ms.length s N).M b o = G.M b o := fun b o hne => by
    simp only [Gh.fz]
    cases hq : G.M b o with
    | some v => rfl
    | none =>
      cases hn : N b o with
      | none => rfl
      | some v => exact absurd (hN1 b o v hn).1 hne
  refine ⟨G.fz ms.length s N, hu, ⟨Nat.le_refl _, fun _ _ _ => rfl, fun b _ ho o => hM b o (by rw [ho]; simp), fun _ _ h => h, rfl, rfl, rfl⟩, ⟨ARs.frzs hp h1, h2, ?_⟩⟩
  have hmrw : ∀ {cs0 : List AV} {v z' : Nat} {l : List PV}, Am.frzs ms.length s ver n (.slc (chunks row z n ps)) cs0 = [.mrw v z' l] → cs0 = [.mrw v z' l] := by
    intro cs0 v z' l hq
    match cs0, hq with
    | [x], hq =>
      simp only [Am.frzs, List.cons.injEq, and_true] at hq
      cases x <;> simp only [AV.frz] at hq <;> first
        | (split at hq <;> (try split at hq) <;> cases hq; done)
        | (cases hq; done)
        | (simp only [AV.mrw.injEq] at hq; obtain ⟨rfl, rfl, rfl⟩ := hq; rfl)
    | [], hq => simp [Am.frzs] at hq
    | _ :: _ :: _, hq => simp [Am.frzs] at hq
  have hnrw : ∀ {cs0 : List AV}, notRw (Am.frzs ms.length s ver n (.slc (chunks row z n ps)) cs0) = true → notRw cs0 = true := fun {cs0} hq => notRw_of fun v z l e => by
    subst e
    simp [Am.frzs, AV.frz, notRw] at hq
  have hVR : ∀ {cs0 : List AV} {o : Obj}, VR G ms.length cs0 o → VR (G.fz ms.length s N) ms.length (Am.frzs ms.length s ver n (.slc (chunks row z n ps)) cs0) o := by
    rintro cs0 o (⟨vs, e, r1, r2⟩ | ⟨ks, xs, es, clock, r1, r2, r3, r4, r5, r6⟩)
    · exact .inl ⟨vs, e, r1, ARs.frzs hp r2⟩
    · subst r1
      exact .inr ⟨ks, Am.frzs ms.length s ver n (.slc (chunks row z n ps)) xs, es, clock, by simp only [Am.frzs, AV.frz], r2, r3, fun i k e h1 h2 => (r4 i k e h1 h2).mono (G.fz_M _ _ _), ARs.frzs hp r5, r6⟩
  have ne : ∀ {b d' s' : Nat} {tag : Bool}, ow b = some (tag, d', s') → ¬ (tag = true ∧ d' = ms.length ∧ s' = s) → ow b ≠ some (true, ms.length, s) := fun {b d' s' tag} ho hne hq => by
    rw [hq] at ho
    simp only [Option.some.injEq, Prod.mk.injEq] at ho
    exact hne ⟨ho.1.symm, ho.2.1.symm, ho.2.2.symm⟩
  refine ⟨fun b o v hm => ?_, fun d' s' cs' hv hnr => ?_, fun d' s' n' z' ht => ?_, fun d' s' b hb => ?_, fun d' s' t ht => ?_, h3.owlt, fun d' s' ver' z' cs' hv => ?_, fun d' s' t ht => ?_, h3.glob.mono (G.fz_M _ _ _)⟩
  · simp only [Gh.fz] at hm
    cases hq : G.M b o with
    | some u => rw [hq] at hm; simp only [Option.some.injEq] at hm; subst hm; exact h3.prot b o _ hq
    | none => rw [hq] at hm; exact (hN1 b o v hm).2
  · simp only [frzTop] at hv
    by_cases hd : d' = ms.length
    · subst hd
      simp only [varAt, memAt, if_true, Option.bind_some, lookup_frzVars] at hv
      split at hv
      · cases hv
      · rename_i hc
        simp only [Option.map_eq_some_iff] at hv
        obtain ⟨cs0, hv, rfl⟩ := hv
        obtain ⟨b, ob, g1, g2, g3, g4, g5⟩ := h3.var ms.length s' cs0 (by simp only [varAt, memAt, if_true, Option.bind_some]; exact hv) (hnrw hnr)
        exact ⟨b, ob, by simp only [Gh.fz]; rw [if_neg (fun q => hc q.2)]; exact g1, g2, g3, hVR g4, fun o => by rw [hM b o (ne g2 (fun q => hc q.2.2))]; exact g5 o⟩
    · simp only [varAt, memAt, hd, if_false] at hv
      obtain ⟨b, ob, g1, g2, g3, g4, g5⟩ := h3.var d' s' cs' (by simp only [varAt, memAt, hd, if_false]; exact hv) hnr
      have hlt : d' < ms.length := by
        cases hq : memAt ms d' with
        | none => simp [hq] at hv
        | some m' => exact memAt_lt hq
      exact ⟨b, ob, by simp only [Gh.fz]; rw [if_neg (fun q => hd q.1)]; exact g1, g2, g3, VR.uptos (hu.mono (by omega)) g4, fun o => by rw [hM b o (ne g2 (fun q => hd q.2.1))]; exact g5 o⟩
  · have ht' : tokAt (m :: ms) d' s' = some (n', z') := by
      simp only [frzTop, tokAt, memAt] at ht ⊢
      by_cases hd : d' = ms.length
      · simp only [hd, if_true] at ht ⊢; exact ht
      · simp only [hd, if_false] at ht ⊢; exact ht
    obtain ⟨t, g1, g2, g3, g4, g5⟩ := h3.tok d' s' n' z' ht'
    refine ⟨t, g1, g2, g3, g4, fun hlt => ?_⟩
    obtain ⟨b, vs, e, q1, q2, q3, q4, q5⟩ := g5 hlt
    exact ⟨b, vs, e, q1, q2, q3, q4, fun o ho => by rw [hM b o (ne q2 (fun q => by cases q.1))]; exact q5 o ho⟩
  · simp only [Gh.fz] at hb
    split at hb
    · cases hb
    · rename_i hc
      have hv := h3.φsome d' s' b hb
      simp only [frzTop]
      by_cases hd : d' = ms.length
      · subst hd
        simp only [varAt, memAt, if_true, Option.bind_some] at hv ⊢
        rw [lookup_frzVars, if_neg (fun hq => hc ⟨rfl, hq⟩)]
        simpa using hv
      · simp only [varAt, memAt, hd, if_false] at hv ⊢
        exact hv
  · have ht' : G.τ d' s' = some t := ht
    obtain ⟨z', hz'⟩ := h3.τsome d' s' t ht'
    refine ⟨z', ?_⟩
    simp only [frzTop, tokAt, memAt] at hz' ⊢
    by_cases hd : d' = ms.length
    · simp only [hd, if_true] at hz' ⊢; exact hz'
    · simp only [hd, if_false] at hz' ⊢; exact hz'
  · simp only [frzTop] at hv
    by_cases hd : d' = ms.length
    · subst hd
      simp only [varAt, memAt, if_true, Option.bind_some, lookup_frzVars] at hv
      split at hv
      · cases hv
      · rename_i hc
        simp only [Option.map_eq_some_iff] at hv
        obtain ⟨cs0, hv, he⟩ := hv
        obtain rfl := hmrw he
        obtain ⟨t, g1, g2, g3, g4, g5⟩ := h3.row ms.length s' ver' z' cs' (by simp only [varAt, memAt, if_true, Option.bind_some]; exact hv)
        refine ⟨t, ?_, g2, g3, g4, fun hcap => ?_⟩
        · simp only [Gh.fz]
          rw [if_neg (fun hq => hc hq.2)]
          exact g1
        · obtain ⟨b, vs, e, q1, q2, q3, q4, q5, q6⟩ := g5 hcap
          exact ⟨b, vs, e, q1, q2, q3, q4, q5.mono (G.fz_M _ _ _), fun o => by rw [hM b o (ne q2 (fun q => hc q.2.2))]; exact q6 o⟩
    · simp only [varAt, memAt, hd, if_false] at hv
      obtain ⟨t, g1, g2, g3, g4, g5⟩ := h3.row d' s' ver' z' cs' (by simp only [varAt, memAt, hd, if_false]; exact hv)
      have hlt : d' < ms.length := by
        cases hq : memAt ms d' with
        | none => simp [hq] at hv
        | some m' => exact memAt_lt hq
      refine ⟨t, ?_, g2, g3, g4, fun hcap => ?_⟩
      · simp only [Gh.fz]
        rw [if_neg (by omega)]
        exact g1
      · obtain ⟨b, vs, e, q1, q2, q3, q4, q5, q6⟩ := g5 hcap
        exact ⟨b, vs, e, q1, q2, q3, q4, q5.mono (G.fz_M _ _ _), fun o => by rw [hM b o (ne q2 (fun q => hd q.2.1))]; exact q6 o⟩
  · simp only [Gh.fz] at ht
    split at ht
    · cases ht
    · rename_i hc
      obtain ⟨z', cs', hv⟩ := h3.ρsome d' s' t ht
      by_cases hd : d' = ms.length
      · subst hd
        refine ⟨z', cs', ?_⟩
        simp only [frzTop]
        simp only [varAt, memAt, if_true, Option.bind_some] at hv ⊢
        rw [lookup_frzVars, if_neg (fun hq => hc ⟨rfl, hq⟩), hv]
        simp [Am.frzs, AV.frz]
      · refine ⟨z', cs', ?_⟩
        simp only [frzTop]
        simp only [varAt, memAt, hd, if_false] at hv ⊢
        exact hv

theorem seed_sound {G : Gh} {ow : Owner} {st st' : St} {a : Act} {w : World} (h : Rel G ow st a w) {t s z : Nat} {x : AV} {u : Value} {base : Option Addr} (hu : a.tmps.toList[t]? = some u)
    (hx : ∀ G' : Gh, G.le G' → G'.ρ st.d s = some { base := base, cap := 0, sz := z, len := 0 } → AR G' st.d x u) (e : st.seed t x s z = some st') :
    ∃ G', G.le G' ∧ Fr G G' ow ow w w ∧ Rel G' ow st' a w ∧ st'.mems.length = st.mems.length := by
  unfold St.seed at e
  split at e
  · rename_i hc
    simp only [Option.some.injEq] at e
    subst e
    have hd : (memAt st.mems st.d).isSome := by
      cases hm : st.mems with
      | nil => exact absurd hm hc.2
      | cons m ms => simp [memAt, St.d, hm]
    have hρ : ∀ t0, G.ρ st.d s = some t0 → t0.le { base := base, cap := 0, sz := z, len := 0 } := fun t0 ht => by
      obtain ⟨z', cs, hz⟩ := h.mem.ρsome _ _ _ ht
      have := hc.1
      rw [hz] at this
      simp at this
    have r := h.mem.setRw (d := st.d) (s := s) (t := { base := base, cap := 0, sz := z, len := 0 }) (cs := []) hd (by simp) (fun h0 => absurd h0 (Nat.lt_irrefl _)) hρ
    have hle := Gh.rw_le hρ
    have hlen : (setVar st.mems st.d s [.mrw 0 z []]).length = st.mems.length := modMem_length _ _ _
    refine ⟨_, hle, ⟨Nat.le_refl _, fun _ _ _ => rfl, fun _ _ _ _ => rfl, fun _ _ h => h, rfl, rfl, rfl⟩, ⟨?_, h.defers, r⟩, hlen⟩
    have hdd : (St.mk (st.tmps.set t x) (setVar st.mems st.d s [.mrw 0 z []])).d = st.d := congrArg (· - 1) hlen
    rw [hdd]
    have h1 := ARs.set t (h.tmps.mono hle) (hx _ hle (by simp [Gh.rw]))
    have h2 : a.tmps.toList.set t u = a.tmps.toList := by
      apply List.ext_getElem?
      intro i
      rw [List.getElem?_set]
      split
      · rename_i hi
        subst hi
        rw [hu]
        split
        · rfl
        · rename_i hn
          have := (List.getElem?_eq_some_iff.mp hu).1
          exact absurd this hn
      · rfl
    rw [h2] at h1
    exact h1
  · cases e

theorem prep1_sound {G : Gh} {ow : Owner} {st st' : St} {a : Act} {w : World} (h : Rel G ow st a w) {p : Prep} (e : st.prep1 p = some st') :
    ∃ G', G.upto (st.mems.length - 1) G' ∧ Fr G G' ow ow w w ∧ Rel G' ow st' a w ∧ st'.mems.length = st.mems.length := by
  cases p with
  | seed t j s z =>
    cases j with
    | none =>
      simp only [St.prep1] at e
      split at e
      · rename_i ht
        obtain ⟨u, hu, r⟩ := h.tmps.get ht
        simp only [AR] at r
        obtain ⟨_, b, rfl⟩ := r
        obtain ⟨G', g1, g2, g3, g4⟩ := seed_sound h (base := b) hu (fun G' hle hρ => by
          simp only [AR, Option.getD_none]
          exact ⟨Nat.le_refl _, _, b, 0, hρ, Nat.le_refl _, rfl, Nat.le_refl _, fun h0 => absurd h0 (Nat.lt_irrefl _), fun _ => ⟨rfl, rfl⟩⟩) e
        exact ⟨G', g1.upto, g2, g3, g4⟩
      · cases e
    | some j =>
      simp only [St.prep1] at e
      split at e
      · rename_i cs ht
        split at e
        · rename_i hj
          obtain ⟨u, hu, r⟩ := h.tmps.get ht
          simp only [AR] at r
          obtain ⟨vs, rfl, r⟩ := r
          obtain ⟨q, hq, rq⟩ := r.get hj
          simp only [AR] at rq
          obtain ⟨_, b, rfl⟩ := rq
          obtain ⟨G', g1, g2, g3, g4⟩ := seed_sound h (base := b) hu (fun G' hle hρ => by
            simp only [AR]
            refine ⟨vs, rfl, ?_⟩
            have h1 := ARs.set j (r.mono hle) (x := .row none s 0 0) (u := .slice b 0 0) (by
              simp only [AR, Option.getD_none]
              exact ⟨Nat.le_refl _, _, b, 0, hρ, Nat.le_refl _, rfl, Nat.le_refl _, fun h0 => absurd h0 (Nat.lt_irrefl _), fun _ => ⟨rfl, rfl⟩⟩)
            have h2 : vs.toList.set j (.slice b 0 0) = vs.toList := by
              apply List.ext_getElem?
              intro i
              rw [List.getElem?_set]
              split
              · rename_i hi
                subst hi
                simp only [List.length_nil] at hq
                rw [hq]
                split
                · rfl
                · rename_i hn
                  have := (List.getElem?_eq_some_iff.mp hq).1
                  exact absurd this hn
              · rfl
            rw [h2] at h1
            exact h1) e
          exact ⟨G', g1.upto, g2, g3, g4⟩
        · cases e
      · cases e
  | mark s z =>
    simp only [St.prep1] at e
    split at e
    · rename_i hc
      simp only [Option.some.injEq] at e
      subst e
      have hd : (memAt st.mems st.d).isSome := by
        cases hm : st.mems with
        | nil => exact absurd hm hc.2
        | cons m ms => simp [memAt, St.d, hm]
      have hρ : ∀ t0, G.ρ st.d s = some t0 → t0.le { base := none, cap := 0, sz := z, len := 0 } := fun t0 ht => by
        obtain ⟨z', cs, hz⟩ := h.mem.ρsome _ _ _ ht
        have := hc.1
        rw [hz] at this
        simp at this
      have r := h.mem.setRw (d := st.d) (s := s) (t := { base := none, cap := 0, sz := z, len := 0 }) (cs := []) hd (by simp) (fun h0 => absurd h0 (Nat.lt_irrefl _)) hρ
      have hle := Gh.rw_le hρ
      have hlen : (setVar st.mems st.d s [.mrw 0 z []]).length = st.mems.length := modMem_length _ _ _
      refine ⟨_, hle.upto, ⟨Nat.le_refl _, fun _ _ _ => rfl, fun _ _ _ _ => rfl, fun _ _ h => h, rfl, rfl, rfl⟩, ⟨?_, h.defers, r⟩, hlen⟩
      have hdd : (St.mk st.tmps (setVar st.mems st.d s [.mrw 0 z []])).d = st.d := congrArg (· - 1) hlen
      rw [hdd]
      exact h.tmps.mono hle
    · cases e
  | noRows =>
    simp only [St.prep1, Option.some.injEq] at e
    subst e
    exact ⟨G, (Gh.le_refl G).upto, Fr.refl G ow w, h, rfl⟩
  | freeze s row =>
    simp only [St.prep1] at e
    split at e
    · rename_i m ms hm
      split at e
      · rename_i ver z cs hs
        simp only [frzGo] at e
        split at e
        · rename_i hc
          simp only [Option.some.injEq] at e
          subst e
          obtain ⟨tmps, mems⟩ := st
          simp only at hm
          subst hm
          obtain ⟨G', g1, g2, g3⟩ := freeze_sound h hs hc.1 hc.2.1 hc.2.2
          exact ⟨G', by simpa using g1, g2, g3, rfl⟩
        · cases e
      · cases e
    · cases e
theorem preps_sound : ∀ (l : List Prep) {G : Gh} {ow : Owner} {st st' : St} {a : Act} {w : World}, Rel G ow st a w → St.preps l st = some st' →
    ∃ G', G.upto (st.mems.length - 1) G' ∧ Fr G G' ow ow w w ∧ Rel G' ow st' a w ∧ st'.mems.length = st.mems.length
  | [], G, ow, st, st', a, w, h, e => by
    simp only [St.preps, Option.some.injEq] at e
    subst e
    exact ⟨G, (Gh.le_refl G).upto, Fr.refl G ow w, h, rfl⟩
  | p :: l, G, ow, st, st', a, w, h, e => by
    simp only [St.preps, Option.bind_eq_some_iff] at e
    obtain ⟨st1, e1, e2⟩ := e
    obtain ⟨G1, g1, g2, g3, g4⟩ := prep1_sound h e1
    obtain ⟨G2, k1, k2, k3, k4⟩ := preps_sound l g3 e2
    rw [g4] at k1
    exact ⟨G2, g1.trans k1, g2.trans k2, k3, by rw [k4, g4]⟩
end Go.Proofs.Ytjbmdfdgeioecaa.Am
/- The abstract machine, part 20: code. -/
namespace Go.Proofs.Ytjbmdfdgeioecaa.Am
set_option linter.unusedVariables false
set_option linter.unusedSimpArgs false
variable {P : Program} {fl : Bool}

inductive AExit where
  | normal
  | exit (id : Nat)
  | ret
  deriving Inhabited
def AExit.out : AExit → Exit
  | .normal => .normal
  | .exit id => .exit id
  | .ret => .ret
abbrev Out := Option (AExit × St)
def thenC (r : Out) (k : St → Out) : Out :=
  match r with
  | some (.normal, st) => k st
  | r => r
def blockC (id : Nat) (r : Out) : Out :=
  match r with
  | some (.exit id', st) => if id' = id then some (.normal, st) else some (.exit id', st)
  | r => r
def normalC (r : Option St) : Out := r.map fun st => (.normal, st)
def aloop (body : St → Out) (prep : St → St) : Nat → St → Out
  | 0, _ => none
  | n + 1, st => thenC (body (prep st)) (aloop body prep n)
/-- A loop's name: the first region of its body. -/
def codeKey : Code → Nat
  | .region id _ _ => id
  | .seq a _ => codeKey a
  | .block _ c => codeKey c
  | .loop c => codeKey c
  | .scope c => codeKey c
  | _ => 0
noncomputable def acode (P : Program) (call : ACall) (H : Nat → Hint) (n : Nat) : Code → St → Out
  | .skip, st => some (.normal, st)
  | .label _, st => some (.normal, st)
  | .region id ops draw, st => normalC ((St.preps (H id).preps st).bind (asteps P (if draw then ACall.clean call else call) (flagOf (H id).preps) ops ops.toList))
  | .seq a b, st => thenC (acode P call H n a st) (acode P call H n b)
  | .cond c x y, st => match st.eval c with
    | .pv (.bool b) => if b then acode P call H n x st else acode P call H n y st
    | _ => none
  | .block id c, st => blockC id (acode P call H n c st)
  | .loop c, st => aloop (acode P call H n c) (St.forget (H (codeKey c))) n st
  | .exit id, st => some (.exit id, st)
  | .ret, st => some (.ret, st)
  | .scope c, st => acode P call H n c st
  | _, _ => none
/-- Every region of the code that draws its order stands the check. -/
def codeB (Z : List (Nat × List Prep)) : Code → Bool
  | .region id ops draw => !draw || regionB (flagOf ((Z.lookup id).getD [])) ops
  | .seq a b => codeB Z a && codeB Z b
  | .cond _ a b => codeB Z a && codeB Z b
  | .block _ c => codeB Z c
  | .loop c => codeB Z c
  | .scope c => codeB Z c
  | _ => true

/-- What a walk through code leads to: the outer frames' references stand. -/
def TrU (G : Gh) (ow : Owner) (w : World) (n : Nat) (st' : St) (a' : Act) (w' : World) : Prop :=
  ∃ G' ow', G.upto (n - 1) G' ∧ Fr G G' ow ow' w w' ∧ Rel G' ow' st' a' w' ∧ st'.mems.length = n
theorem Tr.upto {G : Gh} {ow : Owner} {w w' : World} {n : Nat} {st' : St} {a' : Act} (h : Tr G ow w n st' a' w') : TrU G ow w n st' a' w' := by
  obtain ⟨G', ow', g1, g2⟩ := h
  exact ⟨G', ow', g1.upto, g2⟩
theorem TrU.trans {G : Gh} {ow : Owner} {w : World} {n : Nat} {st2 : St} {a2 : Act} {w1 w2 : World} {G1 : Gh} {ow1 : Owner} (hle : G.upto (n - 1) G1) (hf : Fr G G1 ow ow1 w w1) (h : TrU G1 ow1 w1 n st2 a2 w2) : TrU G ow w n st2 a2 w2 := by
  obtain ⟨G2, ow2, g1, g2, g3, g4⟩ := h
  exact ⟨G2, ow2, hle.trans g1, hf.trans g2, g3, g4⟩
theorem Gh.upto_refl (k : Nat) (G : Gh) : G.upto k G := (Gh.le_refl G).upto

/-- A loop, by an invariant that counts down. -/
theorem wp_loop_count {c : Code} {Q : Exit → Act → World → Prop} (I : Nat → Act → World → Prop)
    (round : ∀ n a w, I n a w → c.wp P (Exit.then (fun a' w' => ∃ m, m < n ∧ I m a' w') Q) a w) {n : Nat} {a : Act} {w : World} (h : I n a w) : (Code.loop c).wp P Q a w := by
  classical
  have least : ∀ a w, (∃ n, I n a w) → ∃ n, I n a w ∧ ∀ m, I m a w → n ≤ m := by
    intro a w ⟨n, hn⟩
    induction n using Nat.strongRecOn with
    | _ n ih =>
      by_cases hq : ∃ m, m < n ∧ I m a w
      · obtain ⟨m, hm, hI⟩ := hq
        exact ih m hm hI
      · exact ⟨n, hn, fun m hm => Nat.le_of_not_lt fun hlt => hq ⟨m, hlt, hm⟩⟩
  let μ : Act → World → Nat := fun a w => if h : ∃ n, I n a w then Classical.choose (least a w h) else 0
  have hμ : ∀ a w (h : ∃ n, I n a w), I (μ a w) a w ∧ ∀ m, I m a w → μ a w ≤ m := by
    intro a w h
    simp only [μ, dif_pos h]
    exact Classical.choose_spec (least a w h)
  refine wp_loop (fun a w => ∃ n, I n a w) μ ⟨n, h⟩ fun a w hI => ?_
  obtain ⟨g1, g2⟩ := hμ a w hI
  refine wp_mono (round _ a w g1) fun e a' w' hq => ?_
  cases e with
  | normal =>
    obtain ⟨m, hm, hm'⟩ := hq
    exact ⟨⟨m, hm'⟩, Nat.lt_of_le_of_lt ((hμ a' w' ⟨m, hm'⟩).2 m hm') hm⟩
  | _ => exact hq

theorem thenC_some {r : Out} {k : St → Out} {x : AExit × St} (h : thenC r k = some x) : (∃ st, r = some (.normal, st) ∧ k st = some x) ∨ (x.1 ≠ .normal ∧ r = some x) := by
  unfold thenC at h
  split at h
  · exact .inl ⟨_, rfl, h⟩
  · rename_i hn
    refine .inr ⟨fun hq => ?_, h⟩
    obtain ⟨e, st⟩ := x
    simp only at hq
    subst hq
    exact hn st h

theorem acode_sound (hm : P.follows .mixedOrders = true) {call : ACall} (hcall : CallOK P call) (H : Nat → Hint) {Z : List (Nat × List Prep)} (hZ : ∀ id, (H id).preps = (Z.lookup id).getD []) (n : Nat) : ∀ (c : Code) {Q : Exit → Act → World → Prop} {G : Gh} {ow : Owner} {st st' : St} {a : Act} {w : World} {r : AExit},
    codeB Z c = true → Rel G ow st a w → st.mems ≠ [] → acode P call H n c st = some (r, st') → (∀ a' w', TrU G ow w st.mems.length st' a' w' → Q r.out a' w') → c.wp P Q a w := by
  have ne : ∀ {st st' : St}, st'.mems.length = st.mems.length → st.mems ≠ [] → st'.mems ≠ [] := fun {st st'} hl hne hq => by
    rw [hq] at hl; exact hne (List.eq_nil_of_length_eq_zero hl.symm)
  intro c
  induction c with
  | skip =>
    intro Q G ow st st' a w r hB h hne e hn
    simp only [acode, Option.some.injEq, Prod.mk.injEq] at e
    obtain ⟨rfl, rfl⟩ := e
    exact wp_skip (hn a w ⟨G, ow, Gh.upto_refl _ G, Fr.refl G ow w, h, rfl⟩)
  | label l =>
    intro Q G ow st st' a w r hB h hne e hn
    simp only [acode, Option.some.injEq, Prod.mk.injEq] at e
    obtain ⟨rfl, rfl⟩ := e
    exact wp_label (hn a w ⟨G, ow, Gh.upto_refl _ G, Fr.refl G ow w, h, rfl⟩)
  | exit id =>
    intro Q G ow st st' a w r hB h hne e hn
    simp only [acode, Option.some.injEq, Prod.mk.injEq] at e
    obtain ⟨rfl, rfl⟩ := e
    exact wp_exit (hn a w ⟨G, ow, Gh.upto_refl _ G, Fr.refl G ow w, h, rfl⟩)
  | ret =>
    intro Q G ow st st' a w r hB h hne e hn
    simp only [acode, Option.some.injEq, Prod.mk.injEq] at e
    obtain ⟨rfl, rfl⟩ := e
    exact wp_ret (hn a w ⟨G, ow, Gh.upto_refl _ G, Fr.refl G ow w, h, rfl⟩)
  | region id ops draw =>
    intro Q G ow st st' a w r hB h hne e hn
    simp only [acode, normalC, Option.map_eq_some_iff, Prod.mk.injEq, Option.bind_eq_some_iff] at e
    obtain ⟨st1, ⟨st0, e0, e⟩, rfl, rfl⟩ := e
    obtain ⟨G1, g1, g2, g3, g4⟩ := preps_sound _ h e0
    have hne0 := ne g4 hne
    have fin : ∀ a' w', Tr G1 ow w st0.mems.length st1 a' w' → Q .normal a' w' := fun a' w' ht => hn a' w' (by
      have := ht.upto
      rw [g4] at this
      exact TrU.trans g1 g2 this)
    cases draw with
    | false =>
      simp only [Bool.false_eq_true, if_false] at e
      exact wp_region_list (asteps_sound hcall ops.toList g3 hne0 e fin)
    | true =>
      simp only [if_true] at e
      exact drawn_sound hm hcall (by rw [hZ]; simpa [codeB] using hB) g3 hne0 e fin
  | seq x y ihx ihy =>
    intro Q G ow st st' a w r hB h hne e hn
    simp only [codeB, Bool.and_eq_true] at hB
    simp only [acode] at e
    refine wp_seq ?_
    rcases thenC_some e with ⟨st1, e1, e2⟩ | ⟨hr, e1⟩
    · refine ihx hB.1 h hne e1 fun a1 w1 ht => ?_
      obtain ⟨G1, ow1, g1, g2, g3, g4⟩ := ht
      refine ihy hB.2 g3 (ne g4 hne) e2 fun a2 w2 ht2 => hn a2 w2 ?_
      rw [g4] at ht2
      exact TrU.trans g1 g2 ht2
    · refine ihx hB.1 h hne e1 fun a1 w1 ht => ?_
      have := hn a1 w1 ht
      cases r with
      | normal => exact absurd rfl hr
      | exit id => exact this
      | ret => exact this
  | cond c x y ihx ihy =>
    intro Q G ow st st' a w r hB h hne e hn
    simp only [codeB, Bool.and_eq_true] at hB
    simp only [acode] at e
    have hc := h.eval c
    split at e
    · rename_i b hb
      rw [hb] at hc
      simp only [AR] at hc
      generalize hvc : a.eval c = vc at hc
      cases hc
      refine wp_cond hvc ?_
      cases b
      · exact ihy hB.2 h hne (by simpa using e) hn
      · exact ihx hB.1 h hne (by simpa using e) hn
    · cases e
  | block id c ih =>
    intro Q G ow st st' a w r hB h hne e hn
    simp only [codeB] at hB
    simp only [acode, blockC] at e
    refine wp_block ?_
    split at e
    · rename_i id' st1 e1
      refine ih hB h hne e1 fun a1 w1 ht => ?_
      simp only [AExit.out, Exit.inBlock]
      split at e
      · rename_i hid
        simp only [Option.some.injEq, Prod.mk.injEq] at e
        obtain ⟨rfl, rfl⟩ := e
        rw [if_pos hid]
        exact hn a1 w1 ht
      · rename_i hid
        simp only [Option.some.injEq, Prod.mk.injEq] at e
        obtain ⟨rfl, rfl⟩ := e
        rw [if_neg hid]
        exact hn a1 w1 ht
    · rename_i hx
      refine ih hB h hne e fun a1 w1 ht => ?_
      have := hn a1 w1 ht
      cases r with
      | normal => exact this
      | exit id' => exact absurd e (hx id' st')
      | ret => exact this
  | loop c ih =>
    intro Q G ow st st' a w r hB h hne e hn
    simp only [codeB] at hB
    simp only [acode] at e
    generalize hpr : St.forget (H (codeKey c)) = prep at e
    refine wp_loop_count (n := n) (fun k a1 w1 => ∃ G1 ow1 st1, G.upto (st.mems.length - 1) G1 ∧ Fr G G1 ow ow1 w w1 ∧ Rel G1 ow1 st1 a1 w1 ∧ st1.mems.length = st.mems.length ∧ aloop (acode P call H n c) prep k st1 = some (r, st')) ?_
      ⟨G, ow, st, Gh.upto_refl _ G, Fr.refl G ow w, h, rfl, e⟩
    intro k a1 w1 ⟨G1, ow1, st1, g1, g2, g3, g4, g5⟩
    cases k with
    | zero => simp [aloop] at g5
    | succ k =>
      simp only [aloop] at g5
      obtain ⟨G2, k1, k2, k3, k4⟩ := forget_sound g3 (H (codeKey c))
      rw [hpr] at k3 k4
      rw [g4] at k1 k4
      have hne2 : (prep st1).mems ≠ [] := ne (st := st) k4 hne
      rcases thenC_some g5 with ⟨st2, e1, e2⟩ | ⟨hr, e1⟩
      · refine ih hB k3 hne2 e1 fun a2 w2 ht => ?_
        obtain ⟨G3, ow3, q1, q2, q3, q4⟩ := ht
        rw [k4] at q1 q4
        exact ⟨k, Nat.lt_succ_self k, G3, ow3, st2, (g1.trans k1).trans q1, (g2.trans k2).trans q2, q3, q4, e2⟩
      · refine ih hB k3 hne2 e1 fun a2 w2 ht => ?_
        rw [k4] at ht
        have := hn a2 w2 (TrU.trans (g1.trans k1) (g2.trans k2) ht)
        cases r with
        | normal => exact absurd rfl hr
        | exit id => exact this
        | ret => exact this
  | scope c ih =>
    intro Q G ow st st' a w r hB h hne e hn
    simp only [codeB] at hB
    simp only [acode] at e
    refine wp_scope_straight (ih hB h hne e fun a1 w1 ht => ?_)
    have := hn a1 w1 ht
    cases r <;> exact this
  | _ => intro Q G ow st st' a w r hB h hne e hn; simp [acode] at e
end Go.Proofs.Ytjbmdfdgeioecaa.Am
/- The abstract machine, part 21: functions. -/
namespace Go.Proofs.Ytjbmdfdgeioecaa.Am
set_option linter.unusedVariables false
set_option linter.unusedSimpArgs false
variable {P : Program} {fl : Bool}

def aresult (P : Program) (st : St) : ResultVar → Option AV
  | .tmp t => some (st.eval (.tmp t))
  | .cell a t => aload P st t (st.eval (.tmp a))
def aresults (P : Program) (st : St) : List ResultVar → Option (List AV)
  | [] => some []
  | x :: xs => match aresult P st x, aresults P st xs with
    | some y, some ys => some (y :: ys)
    | _, _ => none
def pack : List AV → AV
  | [x] => x
  | xs => .tup xs

theorem asAddr_of_sure {t : TypeId} {v u : Value} {w : World} (h : (Instr.loadAt t v).run P w = .ok u w) : (do loadVar t (← asAddr v) : Sem Value).run P w = .ok u w := by
  cases v with
  | pointer a =>
    cases a with
    | some a => simpa [Instr.loadAt, Instr.sureAddr, asAddr] using h
    | none => simp [Instr.loadAt, Instr.sureAddr] at h
  | _ => simp [Instr.loadAt, Instr.sureAddr] at h

def resF (tmps : Array Value) : ResultVar → Sem Value
  | .tmp t => pure (tmps.getD t undef)
  | .cell a t => do loadVar t (← asAddr (tmps.getD a undef))
theorem results_eq (fn : Func) (tmps : Array Value) : results fn tmps = (do
    let vs ← fn.results.mapM (resF tmps)
    pure (if h : vs.size = 1 then vs[0] else .tuple vs)) := by
  unfold results
  refine congrArg (fun m : Sem (Array Value) => m >>= fun vs => pure (if h : vs.size = 1 then vs[0] else .tuple vs)) (congrArg (fun f : ResultVar → Sem Value => fn.results.mapM f) ?_)
  funext x
  cases x <;> rfl
theorem results_run {G : Gh} {ow : Owner} {st : St} {a : Act} {w : World} (h : Rel G ow st a w) : ∀ (rs : List ResultVar) {ys : List AV}, aresults P st rs = some ys →
    ∃ vs : List Value, (rs.mapM (resF a.tmps)).run P w = .ok vs w ∧ ARs G st.d ys vs
  | [], ys, e => by
    simp only [aresults, Option.some.injEq] at e
    subst e
    exact ⟨[], by simp, by simp [ARs]⟩
  | x :: rs, ys, e => by
    simp only [aresults] at e
    split at e
    · rename_i y ys' hy hys
      simp only [Option.some.injEq] at e
      subst e
      obtain ⟨vs, h1, h2⟩ := results_run h rs hys
      have key : ∃ v, (resF a.tmps x).run P w = .ok v w ∧ AR G st.d y v := by
        cases x with
        | tmp t =>
          simp only [aresult, Option.some.injEq] at hy
          subst hy
          exact ⟨_, Sem.run_pure _ _ _, h.eval (.tmp t)⟩
        | cell x t =>
          simp only [aresult] at hy
          obtain ⟨v, g1, g2⟩ := load_sound h hy
          exact ⟨v, asAddr_of_sure g1, g2⟩
      obtain ⟨v, g1, g2⟩ := key
      refine ⟨v :: vs, ?_, by simp only [ARs]; exact ⟨v, vs, rfl, g2, h2⟩⟩
      rw [List.mapM_cons, Sem.run_bind, g1, Result.andThen_ok, Sem.run_bind, h1, Result.andThen_ok, Sem.run_pure]
    · cases e

theorem results_sound {G : Gh} {ow : Owner} {st : St} {a : Act} {w : World} (h : Rel G ow st a w) {fn : Func} {ys : List AV} (e : aresults P st fn.results.toList = some ys) :
    ∃ v, (results fn a.tmps).run P w = .ok v w ∧ AR G st.d (pack ys) v := by
  obtain ⟨vs, h1, h2⟩ := results_run (P := P) h _ e
  have hrun : (results fn a.tmps).run P w = .ok (if h : vs.toArray.size = 1 then vs.toArray[0] else .tuple vs.toArray) w := by
    rw [results_eq, Sem.run_bind, Array.mapM_eq_mapM_toList, map_eq_pure_bind, Sem.run_bind]
    rw [h1]
    simp only [Result.andThen_ok, Sem.run_pure]
  refine ⟨_, hrun, ?_⟩
  cases ys with
  | nil =>
    have hl := h2.length
    have : vs = [] := List.eq_nil_of_length_eq_zero hl.symm
    subst this
    simp only [pack, AR]
    exact ⟨#[], by simp, by simp [ARs]⟩
  | cons y ys =>
    cases ys with
    | nil =>
      simp only [ARs] at h2
      obtain ⟨u, us, rfl, r1, rfl⟩ := h2
      simpa [pack] using r1
    | cons z zs =>
      have hl := h2.length
      have : ¬ vs.toArray.size = 1 := by simp; simp at hl; omega
      rw [dif_neg this]
      simp only [pack, AR]
      exact ⟨vs.toArray, rfl, by simpa using h2⟩

structure FHint where
  rows : List Nat
  loops : List (Nat × Hint)
  preps : List (Nat × List Prep)
  deriving Inhabited
def FHint.at (h : FHint) (k : Nat) : Hint := { (h.loops.lookup k).getD ⟨[], [], [], []⟩ with preps := (h.preps.lookup k).getD [] }
abbrev FTab := FuncId → Option FHint
def leave (P : Program) (fn : Func) (n : Nat) (r : Out) : Option (AV × List Mem) :=
  match r with
  | some (.exit _, _) => none
  | some (_, st) => (aresults P st fn.results.toList).map fun ys => ((pack ys).exp n, st.mems.tail)
  | none => none
def freshMem (h : FHint) : Mem := { vars := [], toks := h.rows.map fun s => (s, (0, 0)) }
def enter (fn : Func) (h : FHint) (args : List AV) (ms : List Mem) : St := ⟨args ++ List.replicate (fn.ntmps - args.length) .junk, freshMem h :: ms⟩
/-- A function's run. -/
noncomputable def afun (P : Program) (prim : ACall) (T : FTab) : Nat → ACall
  | 0 => fun _ _ _ => none
  | k + 1 => fun f args ms =>
    match T f with
    | none => prim f args ms
    | some h => match P.funcs[f]? with
      | some fn => match fn.body with
        | some c => leave P fn ms.length (acode P (afun P prim T k) h.at k c (enter fn h args ms))
        | none => none
      | none => none
def okFun (P : Program) (f : FuncId) (h : FHint) : Bool :=
  match P.funcs[f]? with
  | some fn => match fn.body with
    | some c => codeB h.preps c
    | none => false
  | none => false

theorem lookup_zero : ∀ (l : List Nat) (s : Nat), (l.map fun s => (s, ((0 : Nat), (0 : Nat)))).lookup s = none ∨ (l.map fun s => (s, ((0 : Nat), (0 : Nat)))).lookup s = some (0, 0)
  | [], s => by simp
  | x :: l, s => by
    simp only [List.map_cons, List.lookup]
    split
    · exact .inr rfl
    · exact lookup_zero l s
theorem RM.enter {G : Gh} {ow : Owner} {ms : List Mem} {w : World} (h : RM G ow ms w) (hi : FHint) : RM G ow (freshMem hi :: ms) w := by
  have dlt : ∀ {d s : Nat} {cs : List AV}, varAt ms d s = some cs → d ≠ ms.length := fun hv => by have := varAt_depth hv; omega
  refine ⟨h.prot, fun d s cs hv hnr => ?_, fun d s n z ht => ?_, fun d s b hb => ?_, fun d s t ht => ?_, h.owlt, fun d s ver z cs hv => ?_, fun d s t ht => ?_, h.glob⟩
  · by_cases hd : d = ms.length
    · subst hd; simp [varAt, memAt, freshMem] at hv
    · simp only [varAt, memAt, hd, if_false] at hv; exact h.var d s cs hv hnr
  · by_cases hd : d = ms.length
    · subst hd
      simp only [tokAt, memAt, if_true, Option.bind_some, freshMem] at ht
      rcases lookup_zero hi.rows s with hq | hq <;> rw [hq] at ht <;> simp [Option.filter] at ht
    · simp only [tokAt, memAt, hd, if_false] at ht; exact h.tok d s n z ht
  · have hv := h.φsome d s b hb
    obtain ⟨cs, hcs⟩ := Option.isSome_iff_exists.mp hv
    have hd := dlt hcs
    simp only [varAt, memAt, hd, if_false] at hv ⊢
    exact hv
  · obtain ⟨z, hz⟩ := h.τsome d s t ht
    have hd : d ≠ ms.length := by
      intro hd
      unfold tokAt at hz
      cases hm : memAt ms d with
      | none => simp [hm] at hz
      | some m => have := memAt_lt hm; omega
    refine ⟨z, ?_⟩
    simp only [tokAt, memAt, hd, if_false] at hz ⊢
    exact hz
  · by_cases hd : d = ms.length
    · subst hd; simp [varAt, memAt, freshMem] at hv
    · simp only [varAt, memAt, hd, if_false] at hv; exact h.row d s ver z cs hv
  · obtain ⟨z, cs, hz⟩ := h.ρsome d s t ht
    have hd := dlt hz
    refine ⟨z, cs, ?_⟩
    simp only [varAt, memAt, hd, if_false] at hz ⊢
    exact hz

def Gh.pop (G : Gh) (k : Nat) : Gh := { M := G.M, φ := fun d s => if d < k then G.φ d s else none, τ := fun d s => if d < k then G.τ d s else none, ρ := fun d s => if d < k then G.ρ d s else none }
theorem Gh.pop_upto (G : Gh) (k : Nat) : G.upto k (G.pop k) :=
  ⟨Prot.le_refl _, fun d s b hd e => by simp only [Gh.pop, hd, if_true]; exact e, fun d s t hd e => ⟨t, by simp only [Gh.pop, hd, if_true]; exact e, t.le_refl⟩, fun d s t hd e => ⟨t, by simp only [Gh.pop, hd, if_true]; exact e, t.le_refl⟩⟩
theorem RM.pop {G : Gh} {ow : Owner} {m : Mem} {ms : List Mem} {w : World} (h : RM G ow (m :: ms) w) : RM (G.pop ms.length) ow ms w := by
  refine ⟨h.prot, fun d s cs hv hnr => ?_, fun d s n z ht => ?_, fun d s b hb => ?_, fun d s t ht => ?_, h.owlt, fun d s ver z cs hv => ?_, fun d s t ht => ?_, h.glob⟩
  · have hd := varAt_depth hv
    obtain ⟨b, ob, g1, g2, g3, g4, g5⟩ := h.var d s cs (by simp only [varAt, memAt, Nat.ne_of_lt hd, if_false] at hv ⊢; exact hv) hnr
    exact ⟨b, ob, by simp only [Gh.pop, hd, if_true]; exact g1, g2, g3, VR.uptos ((G.pop_upto ms.length).mono hd) g4, g5⟩
  · have hd : d < ms.length := by
      unfold tokAt at ht
      cases hm : memAt ms d with
      | none => simp [hm] at ht
      | some m => exact memAt_lt hm
    obtain ⟨t, g1, g2⟩ := h.tok d s n z (by simp only [tokAt, memAt, Nat.ne_of_lt hd, if_false] at ht ⊢; exact ht)
    exact ⟨t, by simp only [Gh.pop, hd, if_true]; exact g1, g2⟩
  · simp only [Gh.pop] at hb
    split at hb
    · rename_i hd
      have := h.φsome d s b hb
      simp only [varAt, memAt, Nat.ne_of_lt hd, if_false] at this ⊢
      exact this
    · cases hb
  · simp only [Gh.pop] at ht
    split at ht
    · rename_i hd
      obtain ⟨z, hz⟩ := h.τsome d s t ht
      refine ⟨z, ?_⟩
      simp only [tokAt, memAt, Nat.ne_of_lt hd, if_false] at hz ⊢
      exact hz
    · cases ht
  · have hd := varAt_depth hv
    obtain ⟨t, g1, g2⟩ := h.row d s ver z cs (by simp only [varAt, memAt, Nat.ne_of_lt hd, if_false] at hv ⊢; exact hv)
    exact ⟨t, by simp only [Gh.pop, hd, if_true]; exact g1, g2⟩
  · simp only [Gh.pop] at ht
    split at ht
    · rename_i hd
      obtain ⟨z, cs, hz⟩ := h.ρsome d s t ht
      refine ⟨z, cs, ?_⟩
      simp only [varAt, memAt, Nat.ne_of_lt hd, if_false] at hz ⊢
      exact hz
    · cases ht

theorem ARs.junks {G : Gh} {d : Nat} : ∀ (n : Nat) (v : Value), ARs G d (List.replicate n .junk) (List.replicate n v)
  | 0, v => by simp [ARs]
  | n + 1, v => by simp only [List.replicate_succ, ARs]; exact ⟨_, _, rfl, by simp only [AR], ARs.junks n v⟩

theorem afun_ok (hm : P.follows .mixedOrders = true) {prim : ACall} (hp : CallOK P prim) {T : FTab} (hT : ∀ f h, T f = some h → okFun P f h = true) : ∀ k, CallOK P (afun P prim T k) := by
  intro k
  induction k with
  | zero => intro f args ms r ms' e; simp [afun] at e
  | succ k ih =>
    intro f args ms r ms' e
    simp only [afun] at e
    cases hh : T f with
    | none => simp only [hh] at e; exact hp f args ms r ms' e
    | some h =>
    simp only [hh] at e
    have hok := hT f h hh
    unfold okFun at hok
    cases hf : P.funcs[f]? with
    | none => simp [hf] at e
    | some fn =>
    simp only [hf] at e hok
    cases hb : fn.body with
    | none => simp [hb] at e
    | some c =>
    simp only [hb] at e hok
    intro G ow w vals hr ha hc
    have hlen := (ha ms.length (Nat.le_succ _)).length
    refine calls_of_wp hf hb ?_
    generalize hco : acode P (afun P prim T k) h.at k c (Am.enter fn h args ms) = out at e
    cases out with
    | none => simp [leave] at e
    | some x =>
    obtain ⟨x, st'⟩ := x
    have hrel : Rel G ow (Am.enter fn h args ms) { tmps := vals.toArray ++ Array.replicate (fn.ntmps - vals.toArray.size) undef, defers := [] } w := by
      refine ⟨?_, rfl, hr.enter h⟩
      have hd : (Am.enter fn h args ms).d = ms.length := by simp [Am.enter, St.d]
      rw [hd]
      simp only [Am.enter, Array.toList_append, Array.toList_replicate, List.size_toArray, ← hlen]
      exact (ha ms.length (Nat.le_succ _)).append (ARs.junks _ _)
    refine acode_sound hm ih h.at (fun _ => rfl) k c hok hrel (by simp [Am.enter]) hco fun a' w' ht => ?_
    obtain ⟨G', ow', g1, g2, g3, g4⟩ := ht
    have hml : (Am.enter fn h args ms).mems.length = ms.length + 1 := by simp [Am.enter]
    rw [hml] at g1 g4
    simp only [Nat.add_sub_cancel] at g1
    obtain ⟨tmps', mems'⟩ := st'
    cases mems' with
    | nil => simp at g4
    | cons m ms1 =>
    simp only [List.length_cons, Nat.add_right_cancel_iff] at g4
    have hpop := g3.mem.pop
    have hd' : (St.mk tmps' (m :: ms1)).d = ms.length := by simp [St.d, g4]
    have fin : leave P fn ms.length (some (x, ⟨tmps', m :: ms1⟩)) = some (r, ms') → (x = .normal ∨ x = .ret) → bodyPost P fn (fun e w' => ∃ v G' ow', e = .returned v ∧ G.le G' ∧ Fr G G' ow ow' w w' ∧ RM G' ow' ms' w' ∧ ms'.length = ms.length ∧ (∀ d, ms.length ≤ d + 1 → AR G' d r v) ∧ r.closed ms.length = true) x.out a' w' := by
      intro e hx
      have e' : (aresults P ⟨tmps', m :: ms1⟩ fn.results.toList).map (fun ys => ((pack ys).exp ms.length, (m :: ms1).tail)) = some (r, ms') := by
        rcases hx with rfl | rfl <;> exact e
      simp only [Option.map_eq_some_iff, Prod.mk.injEq] at e'
      obtain ⟨ys, hy, rfl, rfl⟩ := e'
      obtain ⟨v, k1, k2⟩ := results_sound g3 hy
      rw [hd'] at k2
      have hR : ∃ v' G' ow', Ending.returned v = .returned v' ∧ G.le G' ∧ Fr G G' ow ow' w w' ∧ RM G' ow' (m :: ms1).tail w' ∧ (m :: ms1).tail.length = ms.length ∧ (∀ d, ms.length ≤ d + 1 → AR G' d ((pack ys).exp ms.length) v') ∧ ((pack ys).exp ms.length).closed ms.length = true := by
        refine ⟨v, G'.pop ms.length, ow', rfl, ⟨g1.M, fun d s b hq => ?_, fun d s t hq => ?_, fun d s t hq => ?_⟩, ⟨g2.size, g2.same, g2.M, g2.ow, g2.env⟩, ?_, g4, fun d hd => AR.exp (G'.pop_upto ms.length) hd k2, closed_exp _ _⟩
        · obtain ⟨cs, hcs⟩ := Option.isSome_iff_exists.mp (hr.φsome d s b hq)
          have hlt := varAt_depth hcs
          simp only [Gh.pop, hlt, if_true]
          exact g1.φ d s b hlt hq
        · obtain ⟨z, hz⟩ := hr.τsome d s t hq
          have hlt : d < ms.length := by
            unfold tokAt at hz
            cases hm : memAt ms d with
            | none => simp [hm] at hz
            | some m => exact memAt_lt hm
          simp only [Gh.pop, hlt, if_true]
          exact g1.τ d s t hlt hq
        · obtain ⟨z, cs, hz⟩ := hr.ρsome d s t hq
          have hlt := varAt_depth hz
          simp only [Gh.pop, hlt, if_true]
          exact g1.ρ d s t hlt hq
        · rw [g4] at hpop; exact hpop
      rcases hx with rfl | rfl
      · exact ⟨g3.defers, v, k1, hR⟩
      · exact ⟨g3.defers, v, k1, hR⟩
    cases x with
    | normal => exact fin e (.inl rfl)
    | ret => exact fin e (.inr rfl)
    | exit id => simp [leave] at e
end Go.Proofs.Ytjbmdfdgeioecaa.Am
/- The abstract machine, part 22: runs without fuel. -/
namespace Go.Proofs.Ytjbmdfdgeioecaa.Am
set_option linter.unusedVariables false
set_option linter.unusedSimpArgs false
variable {P : Program} {fl : Bool}

/-! ### loops -/
theorem aloop_succ {body : St → Out} {prep : St → St} : ∀ (n : Nat) {st : St} {r : AExit × St}, aloop body prep n st = some r → aloop body prep (n + 1) st = some r
  | 0, st, r, h => by simp [aloop] at h
  | n + 1, st, r, h => by
    rw [aloop] at h ⊢
    unfold thenC at h ⊢
    split
    · rename_i st1 e
      rw [e] at h
      exact aloop_succ n h
    · rename_i hn
      split at h
      · rename_i st1 e
        exact absurd e (hn st1)
      · exact h
theorem aloop_mono {body : St → Out} {prep : St → St} {n m : Nat} (hnm : n ≤ m) {st : St} {r : AExit × St} (h : aloop body prep n st = some r) : aloop body prep m st = some r := by
  induction hnm with
  | refl => exact h
  | step _ ih => exact aloop_succ _ ih
open Classical in
noncomputable def aloopL (body : St → Out) (prep : St → St) (st : St) : Out :=
  if h : ∃ r n, aloop body prep n st = some r then some h.choose else none
theorem aloopL_some {body : St → Out} {prep : St → St} {st : St} {r : AExit × St} : aloopL body prep st = some r ↔ ∃ n, aloop body prep n st = some r := by
  unfold aloopL
  constructor
  · intro h
    split at h
    · rename_i hq
      simp only [Option.some.injEq] at h
      subst h
      exact hq.choose_spec
    · cases h
  · intro ⟨n, h⟩
    have hq : ∃ r n, aloop body prep n st = some r := ⟨r, n, h⟩
    rw [dif_pos hq]
    obtain ⟨m, hm⟩ := hq.choose_spec
    have h1 := aloop_mono (Nat.le_max_left n m) h
    have h2 := aloop_mono (Nat.le_max_right n m) hm
    rw [h1] at h2
    exact h2.symm
theorem aloopL_eq (body : St → Out) (prep : St → St) (st : St) : aloopL body prep st = thenC (body (prep st)) (aloopL body prep) := by
  apply Option.ext
  intro r
  rw [aloopL_some]
  constructor
  · intro ⟨n, h⟩
    cases n with
    | zero => simp [aloop] at h
    | succ n =>
      rw [aloop] at h
      rcases thenC_some h with ⟨st1, e1, e2⟩ | ⟨hr, e1⟩
      · rw [e1]; exact aloopL_some.mpr ⟨n, e2⟩
      · rw [e1]; obtain ⟨x, s⟩ := r; cases x <;> first | exact absurd rfl hr | rfl
  · intro h
    rcases thenC_some h with ⟨st1, e1, e2⟩ | ⟨hr, e1⟩
    · obtain ⟨n, hn⟩ := aloopL_some.mp e2
      exact ⟨n + 1, by rw [aloop, e1]; exact hn⟩
    · refine ⟨1, ?_⟩
      rw [aloop, e1]
      obtain ⟨x, s⟩ := r
      cases x <;> first | exact absurd rfl hr | rfl

/-! ### code -/
noncomputable def acodeL (P : Program) (call : ACall) (H : Nat → Hint) : Code → St → Out
  | .skip, st => some (.normal, st)
  | .label _, st => some (.normal, st)
  | .region id ops draw, st => normalC ((St.preps (H id).preps st).bind (asteps P (if draw then ACall.clean call else call) (flagOf (H id).preps) ops ops.toList))
  | .seq a b, st => thenC (acodeL P call H a st) (acodeL P call H b)
  | .cond c x y, st => match st.eval c with
    | .pv (.bool b) => if b then acodeL P call H x st else acodeL P call H y st
    | _ => none
  | .block id c, st => blockC id (acodeL P call H c st)
  | .loop c, st => aloopL (acodeL P call H c) (St.forget (H (codeKey c))) st
  | .exit id, st => some (.exit id, st)
  | .ret, st => some (.ret, st)
  | .scope c, st => acodeL P call H c st
  | _, _ => none

open Classical in
/-- The limit of calls. -/
noncomputable def limC (calls : Nat → ACall) : ACall := fun f args ms =>
  if h : ∃ r k, ∀ j, k ≤ j → calls j f args ms = some r then some h.choose else none
theorem limC_some {calls : Nat → ACall} {f : FuncId} {args : List AV} {ms : List Mem} {r : AV × List Mem} : limC calls f args ms = some r ↔ ∃ k, ∀ j, k ≤ j → calls j f args ms = some r := by
  unfold limC
  constructor
  · intro h
    split at h
    · rename_i hq
      simp only [Option.some.injEq] at h
      subst h
      exact hq.choose_spec
    · cases h
  · intro ⟨k, h⟩
    have hq : ∃ r k, ∀ j, k ≤ j → calls j f args ms = some r := ⟨r, k, h⟩
    rw [dif_pos hq]
    obtain ⟨m, hm⟩ := hq.choose_spec
    have h1 := h (max k m) (Nat.le_max_left _ _)
    have h2 := hm (max k m) (Nat.le_max_right _ _)
    rw [h1] at h2
    exact h2.symm

/-- For all great numbers. -/
def Ev (p : Nat → Prop) : Prop := ∃ k, ∀ j, k ≤ j → p j
theorem Ev.of {p : Nat → Prop} (h : ∀ j, p j) : Ev p := ⟨0, fun j _ => h j⟩
theorem Ev.and {p q : Nat → Prop} (h : Ev p) (h' : Ev q) : Ev fun j => p j ∧ q j := by
  obtain ⟨k, hk⟩ := h
  obtain ⟨m, hm⟩ := h'
  exact ⟨max k m, fun j hj => ⟨hk j (Nat.le_trans (Nat.le_max_left _ _) hj), hm j (Nat.le_trans (Nat.le_max_right _ _) hj)⟩⟩
theorem Ev.mono {p q : Nat → Prop} (h : Ev p) (i : ∀ j, p j → q j) : Ev q := by
  obtain ⟨k, hk⟩ := h
  exact ⟨k, fun j hj => i j (hk j hj)⟩

theorem aop_lim {calls : Nat → ACall} {o : Oper} {st : St} {r : AV × List Mem} (e : aop P (limC calls) fl o st = some r) : Ev fun j => aop P (calls j) fl o st = some r := by
  unfold aop at e ⊢
  cases ho : o.op with
  | call c =>
    obtain ⟨callee, args, argTypes⟩ := c
    cases callee with
    | value f =>
      simp only [ho] at e ⊢
      split at e
      · split at e
        · rename_i hcb
          simp only [hcb, if_true]
          split at e
          · rename_i hpl
            simp only [hpl, if_true]
            split at e
            · rename_i y hc
              obtain ⟨k, hk⟩ := limC_some.mp hc
              exact ⟨k, fun j hj => by simp only; rw [hk j hj]; exact e⟩
            · cases e
          · rename_i hpl
            simp only [hpl]
            split at e
            · cases e
            · rename_i hne
              simp only [hne]
              obtain ⟨k, hk⟩ := limC_some.mp e
              exact ⟨k, fun j hj => by simpa using hk j hj⟩
        · cases e
      · cases e
    | builtin b =>
      cases b
      case append => simp only [ho] at e ⊢; exact .of fun _ => e
      all_goals (simp only [ho] at e ⊢; exact .of fun _ => e)
    | invoke r m => simp only [ho] at e ⊢; exact .of fun _ => e
  | makeMap t r => cases r <;> (simp only [ho] at e ⊢; exact .of fun _ => e)
  | _ => simp only [ho] at e ⊢; exact .of fun _ => e
theorem astep_lim {calls : Nat → ACall} {ops : Array Oper} {o : Oper} {st st' : St} (e : astep P (limC calls) fl ops o st = some st') : Ev fun j => astep P (calls j) fl ops o st = some st' := by
  unfold astep at e ⊢
  cases hg : o.guard with
  | none =>
    simp only [hg, Option.map_eq_some_iff] at e ⊢
    obtain ⟨q, h1, h2⟩ := e
    exact (aop_lim h1).mono fun j hj => ⟨q, hj, h2⟩
  | some x =>
    obtain ⟨j, want⟩ := x
    simp only [hg] at e ⊢
    split at e
    · split at e
      · rename_i hb
        simp only [Option.map_eq_some_iff] at e
        obtain ⟨q, h1, h2⟩ := e
        simp only [hb, if_true, Option.map_eq_some_iff]
        exact (aop_lim h1).mono fun j hj => ⟨q, hj, h2⟩
      · rename_i hb
        simp only [hb]
        exact .of fun _ => e
    · exact .of fun _ => e
    · cases e
theorem asteps_lim {calls : Nat → ACall} {ops : Array Oper} : ∀ (l : List Oper) {st st' : St}, asteps P (limC calls) fl ops l st = some st' → Ev fun j => asteps P (calls j) fl ops l st = some st'
  | [], st, st', e => .of fun _ => e
  | o :: l, st, st', e => by
    simp only [asteps, Option.bind_eq_some_iff] at e ⊢
    obtain ⟨s1, e1, e2⟩ := e
    exact ((astep_lim e1).and (asteps_lim l e2)).mono fun j hj => ⟨s1, hj.1, hj.2⟩
theorem clean_lim (calls : Nat → ACall) : ACall.clean (limC calls) = limC fun j => ACall.clean (calls j) := by
  funext f args ms
  apply Option.ext
  intro r
  rw [limC_some]
  unfold ACall.clean
  by_cases hm : ms.isEmpty = true
  · simp only [hm, if_true]
    exact limC_some
  · simp only [hm]
    obtain ⟨v, ms'⟩ := r
    constructor
    · intro h
      obtain ⟨rfl, h2⟩ := stillC_mems h
      obtain ⟨k, h3⟩ := limC_some.1 h2
      exact ⟨k, fun j hj => by have := h3 j hj; simp only [Bool.false_eq_true, if_false]; rw [this, stillC_some]⟩
    · intro ⟨k, h⟩
      have h0 := h k (Nat.le_refl k)
      simp only [Bool.false_eq_true, if_false] at h0 h ⊢
      obtain ⟨rfl, _⟩ := stillC_mems h0
      rw [limC_some.2 ⟨k, fun j hj => (stillC_mems (h j hj)).2⟩, stillC_some]

theorem acode_lim {calls : Nat → ACall} {H : Nat → Hint} : ∀ (c : Code) {st : St} {r : AExit × St}, acodeL P (limC calls) H c st = some r → Ev fun j => acode P (calls j) H j c st = some r := by
  intro c
  induction c with
  | region id ops draw =>
    intro st r e
    simp only [acodeL, acode, normalC, Option.map_eq_some_iff, Option.bind_eq_some_iff] at e ⊢
    obtain ⟨s1, ⟨s0, e0, e1⟩, e2⟩ := e
    cases draw with
    | false =>
      simp only [Bool.false_eq_true, if_false] at e1 ⊢
      exact (asteps_lim _ e1).mono fun j hj => ⟨s1, ⟨s0, e0, hj⟩, e2⟩
    | true =>
      simp only [if_true] at e1 ⊢
      rw [clean_lim] at e1
      exact (asteps_lim _ e1).mono fun j hj => ⟨s1, ⟨s0, e0, hj⟩, e2⟩
  | seq x y ihx ihy =>
    intro st r e
    simp only [acodeL, acode] at e ⊢
    rcases thenC_some e with ⟨s1, e1, e2⟩ | ⟨hr, e1⟩
    · exact ((ihx e1).and (ihy e2)).mono fun j hj => by rw [hj.1]; exact hj.2
    · refine (ihx e1).mono fun j hj => ?_
      rw [hj]
      obtain ⟨x, s⟩ := r
      cases x <;> first | exact absurd rfl hr | rfl
  | cond b x y ihx ihy =>
    intro st r e
    simp only [acodeL, acode] at e ⊢
    split at e
    · rename_i t ht
      cases t
      · simp only [Bool.false_eq_true, if_false] at e; exact (ihy e).mono fun j hj => by simp only [ht, Bool.false_eq_true, if_false]; exact hj
      · simp only [if_true] at e; exact (ihx e).mono fun j hj => by simp only [ht, if_true]; exact hj
    · cases e
  | block id c ih =>
    intro st r e
    simp only [acodeL, acode] at e ⊢
    cases hq : acodeL P (limC calls) H c st with
    | none => rw [hq] at e; simp [blockC] at e
    | some x =>
      rw [hq] at e
      exact (ih hq).mono fun j hj => by rw [hj]; exact e
  | loop c ih =>
    intro st r e
    simp only [acodeL, acode] at e ⊢
    generalize St.forget (H (codeKey c)) = prep at e ⊢
    obtain ⟨n, hn⟩ := aloopL_some.mp e
    have key : ∀ (n : Nat) (st : St), aloop (acodeL P (limC calls) H c) prep n st = some r → Ev fun j => ∀ m, n ≤ m → aloop (acode P (calls j) H j c) prep m st = some r := by
      intro n
      induction n with
      | zero => intro st h; simp [aloop] at h
      | succ n ihn =>
        intro st h
        rw [aloop] at h
        rcases thenC_some h with ⟨s1, e1, e2⟩ | ⟨hr, e1⟩
        · refine ((ih e1).and (ihn s1 e2)).mono fun j hj m hm => ?_
          cases m with
          | zero => omega
          | succ m => rw [aloop, hj.1]; exact hj.2 m (by omega)
        · refine (ih e1).mono fun j hj m hm => ?_
          cases m with
          | zero => omega
          | succ m =>
            rw [aloop, hj]
            obtain ⟨x, s⟩ := r
            cases x <;> first | exact absurd rfl hr | rfl
    obtain ⟨k, hk⟩ := key n st hn
    exact ⟨max k n, fun j hj => hk j (Nat.le_trans (Nat.le_max_left _ _) hj) j (Nat.le_trans (Nat.le_max_right _ _) hj)⟩
  | scope c ih =>
    intro st r e
    simp only [acodeL, acode] at e ⊢
    exact ih e
  | _ => intro st r e; simp only [acodeL, acode] at e ⊢; exact .of fun _ => e

/-! ### functions -/
noncomputable def R (P : Program) (prim : ACall) (T : FTab) : ACall := limC (afun P prim T)
theorem R_ok (hm : P.follows .mixedOrders = true) {prim : ACall} (hp : CallOK P prim) {T : FTab} (hT : ∀ f h, T f = some h → okFun P f h = true) : CallOK P (R P prim T) := by
  intro f args ms r ms' e
  obtain ⟨k, hk⟩ := limC_some.mp e
  exact afun_ok hm hp hT k f args ms r ms' (hk k (Nat.le_refl k))
/-- A function's run, by its body. -/
noncomputable def bodyRun (P : Program) (call : ACall) (fn : Func) (h : FHint) (c : Code) (args : List AV) (ms : List Mem) : Option (AV × List Mem) :=
  leave P fn ms.length (acodeL P call h.at c (enter fn h args ms))
theorem R_some {prim : ACall} {T : FTab} {f : FuncId} {h : FHint} {fn : Func} {c : Code} (hT : T f = some h) (hf : P.funcs[f]? = some fn) (hb : fn.body = some c) {args : List AV} {ms : List Mem} {r : AV × List Mem}
    (e : bodyRun P (R P prim T) fn h c args ms = some r) : R P prim T f args ms = some r := by
  unfold bodyRun at e
  cases hq : acodeL P (R P prim T) h.at c (enter fn h args ms) with
  | none => rw [hq] at e; simp [leave] at e
  | some x =>
    obtain ⟨k, hk⟩ := acode_lim c hq
    refine limC_some.mpr ⟨k + 1, fun j hj => ?_⟩
    cases j with
    | zero => omega
    | succ j =>
      simp only [afun, hT, hf, hb]
      rw [hk j (by omega), ← hq]
      exact e
theorem R_prim {prim : ACall} {T : FTab} {f : FuncId} (hT : T f = none) {args : List AV} {ms : List Mem} {r : AV × List Mem} (e : prim f args ms = some r) : R P prim T f args ms = some r :=
  limC_some.mpr ⟨1, fun j hj => by cases j with | zero => omega | succ j => simp only [afun, hT]; exact e⟩
end Go.Proofs.Ytjbmdfdgeioecaa.Am
