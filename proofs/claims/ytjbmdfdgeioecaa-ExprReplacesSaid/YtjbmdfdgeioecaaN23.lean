/- Types and values: plain laws. -/
import Derived.Test.YtjbmdfdgeioecaaN4
namespace Go.Proofs.Ytjbmdfdgeioecaa.X
open Go.Proofs.Ytjbmdfdgeioecaa.Am Go.Proofs.Ytjbmdfdgeioecaa.F
set_option linter.unusedVariables false
set_option linter.unusedSimpArgs false
set_option maxRecDepth 10000
/-- A value of a type: right, its text within the limit. -/
structure OkV (t : Int) (v : V) : Prop where
  kind : v.kind = t
  right : rightV v = true
  size : v.s.size ≤ 200
def FitsL : List V → List Int → Prop
  | [], [] => True
  | v :: vs, t :: ts => OkV t v ∧ FitsL vs ts
  | _, _ => False
theorem noS_empty : noS ByteArray.empty = true := by
  show ((ByteArray.mk #[]).toList == (ByteArray.mk #[]).toList) = true
  exact beq_self_eq_true _
theorem okV_nv (n : Int) : OkV 0 (nv n) := ⟨rfl, by show noS ByteArray.empty = true; exact noS_empty, by show (0 : Nat) ≤ 200; omega⟩
theorem okV_tv (b : Bool) : OkV 2 (tv b) := ⟨rfl, by cases b <;> simp [rightV, tv, noS_empty], by show (0 : Nat) ≤ 200; omega⟩
theorem okV_text {s : ByteArray} (h : s.size ≤ 200) : OkV 1 ⟨1, 0, s⟩ := ⟨rfl, by simp [rightV]; omega, h⟩
theorem cut200_size (s : ByteArray) : (cut200 s).size ≤ 200 := by
  unfold cut200
  rw [ByteArray.size_extract]
  omega
theorem FitsL.pick : ∀ {l : List V} {ts : List Int}, FitsL l ts → ∀ {i : Nat} {t : Int}, ts[i]? = some t → ∃ v, l[i]? = some v ∧ OkV t v
  | [], [], _, i, t, h => by simp at h
  | v :: vs, u :: ts, hf, 0, t, h => by simp only [List.getElem?_cons_zero, Option.some.injEq] at h; subst h; exact ⟨v, rfl, hf.1⟩
  | v :: vs, u :: ts, hf, i + 1, t, h => by
    simp only [List.getElem?_cons_succ] at h
    obtain ⟨w, h1, h2⟩ := FitsL.pick hf.2 h
    exact ⟨w, by simpa using h1, h2⟩
  | [], _ :: _, hf, _, _, _ => hf.elim
  | _ :: _, [], hf, _, _, _ => hf.elim
theorem pickTy_some {l : List Int} {n t : Int} (h : pickTy l n = some t) : 0 ≤ n ∧ l[n.toNat]? = some t := by
  unfold pickTy at h
  split at h
  · rename_i hn
    refine ⟨hn.1, ?_⟩
    cases hg : l[n.toNat]? with
    | none => rw [hg] at h; cases h
    | some u =>
      rw [hg] at h
      simp only at h
      split at h
      · exact h
      · cases h
  · cases h
theorem callTy_some {fs : List Fn} {n t : Int} {l : List Int} (h : callTy fs n l = some t) : 0 ≤ n ∧ ∃ f, fs[n.toNat]? = some f ∧ f.params = l ∧ f.result = t := by
  unfold callTy at h
  split at h
  · rename_i hn
    refine ⟨hn.1, ?_⟩
    cases hg : fs[n.toNat]? with
    | none => rw [hg] at h; cases h
    | some f =>
      rw [hg] at h
      simp only at h
      split at h
      · exact ⟨f, rfl, by assumption, by simpa using h⟩
      · cases h
  · cases h
theorem callTy_intro {fs : List Fn} {n : Int} {f : Fn} (h0 : 0 ≤ n) (h : fs[n.toNat]? = some f) : callTy fs n f.params = some f.result := by
  have hl := (List.getElem?_eq_some_iff.1 h).1
  unfold callTy
  rw [if_pos ⟨h0, by omega⟩, h]
  simp
/-- The ways in which an operation has a type. -/
inductive TyCase (fs : List Fn) (cols params : List Int) : Int → Int → ByteArray → List Int → Int → Prop
  | c0 (n s) : TyCase fs cols params 0 n s [] 0
  | c1 (s) : s.size ≤ 200 → TyCase fs cols params 1 0 s [] 1
  | c2 (n s) : TyCase fs cols params 2 n s [] 2
  | c3 (n s t) : pickTy cols n = some t → TyCase fs cols params 3 n s [] t
  | c4 (n s t) : pickTy params n = some t → TyCase fs cols params 4 n s [] t
  | c5 (s) : TyCase fs cols params 5 0 s [] 0
  | c6 (s) : TyCase fs cols params 6 0 s [2] 2
  | c7 (s) : TyCase fs cols params 7 0 s [0] 0
  | c20 (s) : TyCase fs cols params 20 0 s [1] 0
  | num (op s) : 8 ≤ op ∧ op ≤ 12 → TyCase fs cols params op 0 s [0, 0] 0
  | cmp (op s a) : 13 ≤ op ∧ op ≤ 16 → TyCase fs cols params op 0 s [a, a] 2
  | log (op s) : op = 17 ∨ op = 18 → TyCase fs cols params op 0 s [2, 2] 2
  | c19 (s) : TyCase fs cols params 19 0 s [1, 1] 1
  | c21 (s b) : TyCase fs cols params 21 0 s [2, b, b] b
  | c22 (n s l t) : callTy fs n l = some t → TyCase fs cols params 22 n s l t
theorem tyArgs_case {fs : List Fn} {cols params : List Int} {op n : Int} {s : ByteArray} {t : Int} : ∀ (l : List Int), tyArgs cols params op n s l = some t → TyCase fs cols params op n s l t
  | [], h => by
    change leafTy cols params op n s = some t at h
    unfold leafTy at h
    by_cases h0 : op = 0
    · rw [if_pos h0] at h; subst h0; cases h; exact .c0 n s
    rw [if_neg h0] at h
    by_cases h0 : op = 1
    · rw [if_pos h0] at h; subst h0
      by_cases hn : n = 0 ∧ (s.size : Int) ≤ 200
      · rw [if_pos hn] at h; cases h; obtain ⟨rfl, hs⟩ := hn; exact .c1 s (by omega)
      · rw [if_neg hn] at h; cases h
    rw [if_neg h0] at h
    by_cases h0 : op = 2
    · rw [if_pos h0] at h; subst h0
      by_cases hn : n = 0 ∨ n = 1
      · rw [if_pos hn] at h; cases h; exact .c2 n s
      · rw [if_neg hn] at h; cases h
    rw [if_neg h0] at h
    by_cases h0 : op = 3
    · rw [if_pos h0] at h; subst h0; exact .c3 n s t h
    rw [if_neg h0] at h
    by_cases h0 : op = 4
    · rw [if_pos h0] at h; subst h0; exact .c4 n s t h
    rw [if_neg h0] at h
    by_cases h0 : op = 5
    · rw [if_pos h0] at h; subst h0
      by_cases hn : n = 0
      · rw [if_pos hn] at h; subst hn; cases h; exact .c5 s
      · rw [if_neg hn] at h; cases h
    rw [if_neg h0] at h
    cases h
  | [a], h => by
    change (if n = 0 then unTy op a else none) = some t at h
    by_cases hn : n = 0
    · rw [if_pos hn] at h; subst hn
      unfold unTy at h
      by_cases h0 : op = 6
      · rw [if_pos h0] at h; subst h0
        by_cases ha : a = 2
        · rw [if_pos ha] at h; subst ha; cases h; exact .c6 s
        · rw [if_neg ha] at h; cases h
      rw [if_neg h0] at h
      by_cases h0 : op = 7
      · rw [if_pos h0] at h; subst h0
        by_cases ha : a = 0
        · rw [if_pos ha] at h; subst ha; cases h; exact .c7 s
        · rw [if_neg ha] at h; cases h
      rw [if_neg h0] at h
      by_cases h0 : op = 20
      · rw [if_pos h0] at h; subst h0
        by_cases ha : a = 1
        · rw [if_pos ha] at h; subst ha; cases h; exact .c20 s
        · rw [if_neg ha] at h; cases h
      rw [if_neg h0] at h
      cases h
    · rw [if_neg hn] at h; cases h
  | [a, b], h => by
    change (if n = 0 then binTy op a b else none) = some t at h
    by_cases hn : n = 0
    · rw [if_pos hn] at h; subst hn
      unfold binTy at h
      by_cases h0 : 8 ≤ op ∧ op ≤ 12
      · rw [if_pos h0] at h
        by_cases ha : a = 0 ∧ b = 0
        · rw [if_pos ha] at h; obtain ⟨rfl, rfl⟩ := ha; cases h; exact .num op s h0
        · rw [if_neg ha] at h; cases h
      rw [if_neg h0] at h
      by_cases h0 : 13 ≤ op ∧ op ≤ 16
      · rw [if_pos h0] at h
        by_cases ha : a = b
        · rw [if_pos ha] at h; subst ha; cases h; exact .cmp op s a h0
        · rw [if_neg ha] at h; cases h
      rw [if_neg h0] at h
      by_cases h0 : op = 17 ∨ op = 18
      · rw [if_pos h0] at h
        by_cases ha : a = 2 ∧ b = 2
        · rw [if_pos ha] at h; obtain ⟨rfl, rfl⟩ := ha; cases h; exact .log op s h0
        · rw [if_neg ha] at h; cases h
      rw [if_neg h0] at h
      by_cases h0 : op = 19
      · rw [if_pos h0] at h; subst h0
        by_cases ha : a = 1 ∧ b = 1
        · rw [if_pos ha] at h; obtain ⟨rfl, rfl⟩ := ha; cases h; exact .c19 s
        · rw [if_neg ha] at h; cases h
      rw [if_neg h0] at h
      cases h
    · rw [if_neg hn] at h; cases h
  | [a, b, c], h => by
    change (if n = 0 ∧ op = 21 ∧ a = 2 ∧ b = c then some b else none) = some t at h
    by_cases hn : n = 0 ∧ op = 21 ∧ a = 2 ∧ b = c
    · rw [if_pos hn] at h; obtain ⟨rfl, rfl, rfl, rfl⟩ := hn; cases h; exact .c21 s _
    · rw [if_neg hn] at h; cases h
  | _ :: _ :: _ :: _ :: _, h => by have h : none = some t := h; cases h
theorem tyCase {fs : List Fn} {cols params : List Int} {op n : Int} {s : ByteArray} {l : List Int} {t : Int} (h : tyOp fs cols params op n s l = some t) : TyCase fs cols params op n s l t := by
  unfold tyOp at h
  by_cases h1 : noS s = false ∧ op ≠ 1
  · rw [if_pos h1] at h; cases h
  · rw [if_neg h1] at h
    by_cases h22 : op = 22
    · rw [if_pos h22] at h; subst h22; exact .c22 n s l t h
    · rw [if_neg h22] at h; exact tyArgs_case l h
theorem tyL_mem {fs : List Fn} {cols params : List Int} : ∀ {as' : List E} {ts : List Int}, tyL fs cols params as' = some ts → ∀ a ∈ as', ∃ u, ty fs cols params a = some u
  | [], _, _, a, ha => by cases ha
  | b :: l, ts, h, a, ha => by
    simp only [tyL] at h
    cases hb : ty fs cols params b with
    | none => rw [hb] at h; cases h
    | some u =>
      rw [hb] at h
      simp only at h
      cases hl : tyL fs cols params l with
      | none => rw [hl] at h; cases h
      | some us =>
        rcases List.mem_cons.1 ha with rfl | ha
        · exact ⟨u, hb⟩
        · exact tyL_mem hl a ha
theorem tyL_fits {fs : List Fn} {cols params : List Int} {g : E → V} : ∀ {as' : List E} {ts : List Int}, tyL fs cols params as' = some ts → (∀ a ∈ as', ∀ u, ty fs cols params a = some u → OkV u (g a)) → FitsL (as'.map g) ts
  | [], ts, h, _ => by simp only [tyL, Option.some.injEq] at h; subst h; trivial
  | b :: l, ts, h, hg => by
    simp only [tyL] at h
    cases hb : ty fs cols params b with
    | none => rw [hb] at h; cases h
    | some u =>
      rw [hb] at h
      simp only at h
      cases hl : tyL fs cols params l with
      | none => rw [hl] at h; cases h
      | some us =>
        rw [hl] at h
        simp only [Option.some.injEq] at h
        subst h
        exact ⟨hg b List.mem_cons_self u hb, tyL_fits hl (fun a ha => hg a (List.mem_cons_of_mem _ ha))⟩
theorem tyOp_mono {fs gs : List Fn} {cols params : List Int} (hm : ∀ n l t, callTy fs n l = some t → callTy gs n l = some t) {op n : Int} {s : ByteArray} {l : List Int} {t : Int} (h : tyOp fs cols params op n s l = some t) : tyOp gs cols params op n s l = some t := by
  unfold tyOp at h ⊢
  split at h
  · cases h
  · rename_i h1
    rw [if_neg h1]
    split at h
    · rename_i h2; rw [if_pos h2]; exact hm _ _ _ h
    · rename_i h2; rw [if_neg h2]; exact h
mutual
theorem ty_mono {fs gs : List Fn} {cols params : List Int} (hm : ∀ n l t, callTy fs n l = some t → callTy gs n l = some t) : ∀ (e : E) (t : Int), ty fs cols params e = some t → ty gs cols params e = some t
  | .mk op n s args, t, h => by
    simp only [ty] at h ⊢
    cases hl : tyL fs cols params args with
    | none => rw [hl] at h; cases h
    | some ts =>
      rw [hl] at h
      rw [tyL_mono hm args ts hl]
      exact tyOp_mono hm h
theorem tyL_mono {fs gs : List Fn} {cols params : List Int} (hm : ∀ n l t, callTy fs n l = some t → callTy gs n l = some t) : ∀ (l : List E) (ts : List Int), tyL fs cols params l = some ts → tyL gs cols params l = some ts
  | [], ts, h => by simp only [tyL] at h ⊢; exact h
  | b :: l, ts, h => by
    simp only [tyL] at h ⊢
    cases hb : ty fs cols params b with
    | none => rw [hb] at h; cases h
    | some u =>
      rw [hb] at h
      simp only at h
      cases hl : tyL fs cols params l with
      | none => rw [hl] at h; cases h
      | some us =>
        rw [hl] at h
        rw [ty_mono hm b u hb, tyL_mono hm l us hl]
        exact h
end
theorem callTy_take {fs : List Fn} {i j : Nat} (hij : i ≤ j) : ∀ n l t, callTy (fs.take i) n l = some t → callTy (fs.take j) n l = some t := by
  intro n l t h
  obtain ⟨h0, f, hf, rfl, rfl⟩ := callTy_some h
  refine callTy_intro h0 ?_
  rw [List.getElem?_take] at hf ⊢
  split at hf
  · rename_i hlt; rw [if_pos (by omega)]; exact hf
  · cases hf
end Go.Proofs.Ytjbmdfdgeioecaa.X
