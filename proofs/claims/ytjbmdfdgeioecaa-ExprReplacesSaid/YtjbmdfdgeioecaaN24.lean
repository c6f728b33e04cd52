/- Evaluation, by the code: any expression that has a type has a value of the type. -/
import Derived.Test.YtjbmdfdgeioecaaN19
import Derived.Test.YtjbmdfdgeioecaaN20
import Derived.Test.YtjbmdfdgeioecaaN21
import Derived.Test.YtjbmdfdgeioecaaN22
import Derived.Test.YtjbmdfdgeioecaaN23
namespace Go.Proofs.Ytjbmdfdgeioecaa.X
open Go.Proofs.Ytjbmdfdgeioecaa.Am Go.Proofs.Ytjbmdfdgeioecaa.F
set_option linter.unusedVariables false
set_option linter.unusedSimpArgs false
set_option maxRecDepth 10000
/-- Calls of the functions below a depth. -/
def evC (fs : List Fn) (time : Int) : Nat → Int → List V → V
  | 0, _, _ => V.z
  | d + 1, n, l => match fs[n.toNat]? with | some f => evE (evC fs time d) time [] l f.body | none => V.z
def evD (fs : List Fn) (time : Int) (d : Nat) (row ps : List V) (e : E) : V := evE (evC fs time d) time row ps e
theorem evEL_map (cl : Int → List V → V) (time : Int) (row ps : List V) : ∀ l : List E, evEL cl time row ps l = l.map (evE cl time row ps)
  | [] => rfl
  | a :: l => by simp only [evEL, List.map_cons, evEL_map cl time row ps l]
/-- Functions whose bodies have their types. -/
def FnsOK (fs : List Fn) : Prop := ∀ (n : Nat) (f : Fn), fs[n]? = some f → ty (fs.take n) [] f.params f.body = some f.result ∧ parts f.body ≤ 1000000
theorem at0 (a : V) (l : List V) : at? (a :: l) 0 = a := rfl
theorem at1 (a b : V) (l : List V) : at? (a :: b :: l) 1 = b := rfl
theorem at2 (a b c : V) (l : List V) : at? (a :: b :: c :: l) 2 = c := rfl
theorem fits0 {l : List V} (h : FitsL l []) : l = [] := by
  cases l with
  | nil => rfl
  | cons v l => exact h.elim
theorem fits1 {l : List V} {t : Int} (h : FitsL l [t]) : ∃ a, l = [a] ∧ OkV t a := by
  match l, h with
  | [a], h => exact ⟨a, rfl, h.1⟩
  | [], h => exact h.elim
  | _ :: _ :: _, h => exact h.2.elim
theorem fits2 {l : List V} {t u : Int} (h : FitsL l [t, u]) : ∃ a b, l = [a, b] ∧ OkV t a ∧ OkV u b := by
  match l, h with
  | [a, b], h => exact ⟨a, b, rfl, h.1, h.2.1⟩
  | [], h => exact h.elim
  | [_], h => exact h.2.elim
  | _ :: _ :: _ :: _, h => exact h.2.2.elim
theorem fits3 {l : List V} {t u w : Int} (h : FitsL l [t, u, w]) : ∃ a b c, l = [a, b, c] ∧ OkV t a ∧ OkV u b ∧ OkV w c := by
  match l, h with
  | [a, b, c], h => exact ⟨a, b, c, rfl, h.1, h.2.1, h.2.2.1⟩
  | [], h => exact h.elim
  | [_], h => exact h.2.elim
  | [_, _], h => exact h.2.2.elim
  | _ :: _ :: _ :: _ :: _, h => exact h.2.2.2.elim
theorem map3 {α β : Type} {f : α → β} {l : List α} {a b c : β} (h : l.map f = [a, b, c]) : ∃ x y z, l = [x, y, z] ∧ f x = a ∧ f y = b ∧ f z = c := by
  match l, h with
  | [x, y, z], h => simp only [List.map_cons, List.map_nil, List.cons.injEq, and_true] at h; exact ⟨x, y, z, rfl, h.1, h.2.1, h.2.2⟩
  | [], h => simp at h
  | [_], h => simp at h
  | [_, _], h => simp at h
  | _ :: _ :: _ :: _ :: _, h => simp at h
theorem evOp_num {cl : Int → List V → V} {time : Int} {row ps : List V} {op n : Int} {s : ByteArray} {a b : V} (h : 8 ≤ op ∧ op ≤ 12) : ∃ k, evOp cl time row ps op n s [a, b] = nv k := by
  have : op = 8 ∨ op = 9 ∨ op = 10 ∨ op = 11 ∨ op = 12 := by omega
  rcases this with rfl | rfl | rfl | rfl | rfl <;> exact ⟨_, rfl⟩
theorem evOp_bool {cl : Int → List V → V} {time : Int} {row ps : List V} {op n : Int} {s : ByteArray} {a b : V} (h : 13 ≤ op ∧ op ≤ 18) : ∃ k, evOp cl time row ps op n s [a, b] = tv k := by
  have : op = 13 ∨ op = 14 ∨ op = 15 ∨ op = 16 ∨ op = 17 ∨ op = 18 := by omega
  rcases this with rfl | rfl | rfl | rfl | rfl | rfl <;> exact ⟨_, rfl⟩
theorem fe_num {fs : List Fn} {time : Int} {row ps : List V} {e : E} {a b : V} {cl : Int → List V → V} (h : 8 ≤ e.op ∧ e.op ≤ 12) : FeGoal fs time row ps e [a, b] (evOp cl time row ps e.op e.n e.s [a, b]) := by
  have : e.op = 8 ∨ e.op = 9 ∨ e.op = 10 ∨ e.op = 11 ∨ e.op = 12 := by omega
  rcases this with hk | hk | hk | hk | hk
  · rw [hk]; exact fv_8 hk
  · rw [hk]; exact fv_9 hk
  · rw [hk]; exact fv_10 hk
  · rw [hk]; exact fv_11 hk
  · rw [hk]; exact fv_12 hk
theorem fe_bool {fs : List Fn} {time : Int} {row ps : List V} {e : E} {a b : V} {cl : Int → List V → V} (h : 13 ≤ e.op ∧ e.op ≤ 18) : FeGoal fs time row ps e [a, b] (evOp cl time row ps e.op e.n e.s [a, b]) := by
  have : e.op = 13 ∨ e.op = 14 ∨ e.op = 15 ∨ e.op = 16 ∨ e.op = 17 ∨ e.op = 18 := by omega
  rcases this with hk | hk | hk | hk | hk | hk
  · rw [hk]; exact fv_13 hk
  · rw [hk]; exact fv_14 hk
  · rw [hk]; exact fv_15 hk
  · rw [hk]; exact fv_16 hk
  · rw [hk]; exact fv_17 hk
  · rw [hk]; exact fv_18 hk
/-- What is shown of an expression with a type. -/
def EvGood (fs : List Fn) (time : Int) (d : Nat) (row ps : List V) (e : E) (t : Int) : Prop :=
  RR 42 [frv fs time row ps, e.av] [] = some ((evD fs time d row ps e).av, []) ∧ OkV t (evD fs time d row ps e)
/-- A row that has what the columns' types say. -/
def FitsP (row : List V) (cols : List Int) : Prop := ∀ (i : Nat) (t : Int), cols[i]? = some t → ∃ v, row[i]? = some v ∧ OkV t v
theorem ev_step {fs : List Fn} {time : Int} {d : Nat} (hd : d ≤ fs.length) {cols params : List Int} {row ps : List V} (hrow : FitsP row cols) (hps : FitsL ps params)
    (hcall : ∀ n l t vs, callTy (fs.take d) n l = some t → FitsL vs l → ∃ f, 0 ≤ n ∧ fs[n.toNat]? = some f ∧ RR 42 [frv fs time [] vs, f.body.av] [] = some ((evC fs time d n vs).av, []) ∧ OkV t (evC fs time d n vs)) :
    ∀ (e : E) (t : Int), parts e ≤ 1000000 → ty (fs.take d) cols params e = some t → EvGood fs time d row ps e t := by
  apply E.ind (p := fun e => ∀ t, parts e ≤ 1000000 → ty (fs.take d) cols params e = some t → EvGood fs time d row ps e t)
  intro e ih t hp ht
  rw [parts_eq] at hp
  have hn : e.args.length ≤ 1000000 := by have := partsL_len e.args; omega
  have ih' : ∀ a ∈ e.args, ∀ u, ty (fs.take d) cols params a = some u → EvGood fs time d row ps a u := fun a ha u hu => ih a ha u (by have := partsL_mem ha; omega) hu
  rw [ty_eq] at ht
  cases hl : tyL (fs.take d) cols params e.args with
  | none => rw [hl] at ht; cases ht
  | some ts =>
    rw [hl] at ht
    simp only at ht
    have hf : FitsL (e.args.map (evD fs time d row ps)) ts := tyL_fits hl (fun a ha u hu => (ih' a ha u hu).2)
    have hr : ∀ a ∈ e.args, RR 42 [frv fs time row ps, a.av] [] = some ((evD fs time d row ps a).av, []) := by
      intro a ha
      obtain ⟨u, hu⟩ := tyL_mem hl a ha
      exact (ih' a ha u hu).1
    have hev : evD fs time d row ps e = evOp (evC fs time d) time row ps e.op e.n e.s (e.args.map (evD fs time d row ps)) := by
      show evE (evC fs time d) time row ps e = _
      rw [evE_eq, evEL_map]
      rfl
    have hc := tyCase ht
    unfold EvGood
    rw [hev]
    have go : e.op ≠ 21 → FeGoal fs time row ps e (e.args.map (evD fs time d row ps)) (evOp (evC fs time d) time row ps e.op e.n e.s (e.args.map (evD fs time d row ps))) → RR 42 [frv fs time row ps, e.av] [] = some ((evOp (evC fs time d) time row ps e.op e.n e.s (e.args.map (evD fs time d row ps))).av, []) :=
      fun h1 h2 => fe_go h1 hr hn h2
    generalize hg : e.args.map (evD fs time d row ps) = vs at hf go ⊢
    generalize ho : e.op = op at hc go ⊢
    generalize hnn : e.n = n at hc go ⊢
    generalize hs : e.s = s at hc go ⊢
    cases hc with
    | c0 => exact ⟨go (by omega) (by rw [← hnn]; exact fv_0 ho), okV_nv _⟩
    | c1 _ h => exact ⟨go (by omega) (by rw [← hs]; exact fv_1 ho), okV_text h⟩
    | c2 => exact ⟨go (by omega) (by rw [← hnn]; exact fv_2 ho), okV_tv _⟩
    | c3 _ _ _ h =>
      obtain ⟨h0, h1⟩ := pickTy_some h
      obtain ⟨v, h2, h3⟩ := hrow _ _ h1
      have he : evOp (evC fs time d) time row ps 3 n s vs = v := by show at? row n = v; unfold at?; rw [h2]; rfl
      rw [he] at go ⊢
      exact ⟨go (by omega) (fv_3 ho (by rw [hnn]; exact h0) (by rw [hnn]; exact h2)), h3⟩
    | c4 _ _ _ h =>
      obtain ⟨h0, h1⟩ := pickTy_some h
      obtain ⟨v, h2, h3⟩ := hps.pick h1
      have he : evOp (evC fs time d) time row ps 4 n s vs = v := by show at? ps n = v; unfold at?; rw [h2]; rfl
      rw [he] at go ⊢
      exact ⟨go (by omega) (fv_4 ho (by rw [hnn]; exact h0) (by rw [hnn]; exact h2)), h3⟩
    | c5 => exact ⟨go (by omega) (fv_5 ho), okV_nv _⟩
    | c6 =>
      obtain ⟨a, rfl, _⟩ := fits1 hf
      exact ⟨go (by omega) (fv_6 ho), okV_tv _⟩
    | c7 =>
      obtain ⟨a, rfl, _⟩ := fits1 hf
      exact ⟨go (by omega) (fv_7 ho), okV_nv _⟩
    | c20 =>
      obtain ⟨a, rfl, _⟩ := fits1 hf
      exact ⟨go (by omega) (fv_20 ho), okV_nv _⟩
    | num _ _ h =>
      obtain ⟨a, b, rfl, _, _⟩ := fits2 hf
      obtain ⟨k, hk⟩ := evOp_num (cl := evC fs time d) (time := time) (row := row) (ps := ps) (n := 0) (s := s) (a := a) (b := b) h
      refine ⟨go (by omega) ?_, by rw [hk]; exact okV_nv k⟩
      rw [← ho, ← hnn, ← hs]
      exact fe_num (by omega)
    | cmp _ _ _ h =>
      obtain ⟨a, b, rfl, _, _⟩ := fits2 hf
      obtain ⟨k, hk⟩ := evOp_bool (cl := evC fs time d) (time := time) (row := row) (ps := ps) (n := 0) (s := s) (a := a) (b := b) (op := op) (by omega)
      refine ⟨go (by omega) ?_, by rw [hk]; exact okV_tv k⟩
      rw [← ho, ← hnn, ← hs]
      exact fe_bool (by omega)
    | log _ _ h =>
      obtain ⟨a, b, rfl, _, _⟩ := fits2 hf
      obtain ⟨k, hk⟩ := evOp_bool (cl := evC fs time d) (time := time) (row := row) (ps := ps) (n := 0) (s := s) (a := a) (b := b) (op := op) (by omega)
      refine ⟨go (by omega) ?_, by rw [hk]; exact okV_tv k⟩
      rw [← ho, ← hnn, ← hs]
      exact fe_bool (by omega)
    | c19 =>
      obtain ⟨a, b, rfl, h1, h2⟩ := fits2 hf
      exact ⟨go (by omega) (fv_19 ho (by have := h1.size; omega) (by have := h2.size; omega)), okV_text (cut200_size _)⟩
    | c21 =>
      obtain ⟨vc, va, vb, rfl, h1, h2, h3⟩ := fits3 hf
      obtain ⟨x, y, z, hx, rfl, rfl, rfl⟩ := map3 hg
      have he : evOp (evC fs time d) time row ps 21 0 s [evD fs time d row ps x, evD fs time d row ps y, evD fs time d row ps z] = if (evD fs time d row ps x).n = 1 then evD fs time d row ps y else evD fs time d row ps z := rfl
      rw [he]
      refine ⟨fe_if ho hx (hr x (by rw [hx]; simp)) ?_, ?_⟩
      · split
        · exact hr y (by rw [hx]; simp)
        · exact hr z (by rw [hx]; simp)
      · split
        · exact h2
        · exact h3
    | c22 _ _ _ _ h =>
      obtain ⟨f, h0, h1, h2, h3⟩ := hcall n ts t vs h hf
      have he : evOp (evC fs time d) time row ps 22 n s vs = evC fs time d n vs := rfl
      rw [he] at go ⊢
      exact ⟨go (by omega) (fv_22 ho (by rw [hnn]; exact h0) (by rw [hnn]; exact h1) h2), h3⟩
theorem ev_okP {fs : List Fn} {time : Int} (hR : FnsOK fs) : ∀ (d : Nat), d ≤ fs.length → ∀ {cols params : List Int} {row ps : List V}, FitsP row cols → FitsL ps params →
    ∀ (e : E) (t : Int), parts e ≤ 1000000 → ty (fs.take d) cols params e = some t → EvGood fs time d row ps e t
  | 0, hd, cols, params, row, ps, hrow, hps, e, t, hp, ht => by
    refine ev_step hd hrow hps ?_ e t hp ht
    intro n l t vs h _
    obtain ⟨_, f, hf, _⟩ := callTy_some h
    simp at hf
  | d + 1, hd, cols, params, row, ps, hrow, hps, e, t, hp, ht => by
    refine ev_step hd hrow hps ?_ e t hp ht
    intro n l t vs h hv
    obtain ⟨h0, f, hf, rfl, rfl⟩ := callTy_some h
    rw [List.getElem?_take] at hf
    split at hf
    · rename_i hlt
      obtain ⟨h1, h2⟩ := hR _ _ hf
      have h3 := ty_mono (callTy_take (fs := fs) (i := n.toNat) (j := d) (by omega)) f.body f.result h1
      have h4 := ev_okP (time := time) hR d (by omega) (cols := []) (row := []) (ps := vs) (fun i t h => by simp at h) hv f.body f.result h2 h3
      have he : evC fs time (d + 1) n vs = evD fs time d [] vs f.body := by
        show (match fs[n.toNat]? with | some f => evE (evC fs time d) time [] vs f.body | none => V.z) = _
        rw [hf]; rfl
      rw [he]
      exact ⟨f, h0, hf, h4.1, h4.2⟩
    · cases hf
theorem ev_ok {fs : List Fn} {time : Int} (hR : FnsOK fs) (d : Nat) (hd : d ≤ fs.length) {cols params : List Int} {row ps : List V} (hrow : FitsL row cols) (hps : FitsL ps params)
    (e : E) (t : Int) (hp : parts e ≤ 1000000) (ht : ty (fs.take d) cols params e = some t) : EvGood fs time d row ps e t :=
  ev_okP hR d hd (fun i t h => hrow.pick h) hps e t hp ht
end Go.Proofs.Ytjbmdfdgeioecaa.X
