/- Plain laws of evaluation: what does not change it. -/
import Derived.Test.YtjbmdfdgeioecaaN24
import Derived.Test.YtjbmdfdgeioecaaN45
import Derived.Test.YtjbmdfdgeioecaaN52
namespace Go.Proofs.Ytjbmdfdgeioecaa.X
open Go.Proofs.Ytjbmdfdgeioecaa.Am Go.Proofs.Ytjbmdfdgeioecaa.F
set_option linter.unusedVariables false
set_option linter.unusedSimpArgs false
theorem evOp_congr {cl cl' : Int → List V → V} {time time' : Int} {row row' ps ps' : List V} {op n : Int} {s : ByteArray} {l : List V}
    (hcl : op = 22 → cl n l = cl' n l) (ht : op = 5 → time = time') (hr : op = 3 → at? row n = at? row' n) (hp : op = 4 → at? ps n = at? ps' n) :
    evOp cl time row ps op n s l = evOp cl' time' row' ps' op n s l := by
  by_cases h22 : op = 22
  · subst h22; exact hcl rfl
  by_cases h5 : op = 5
  · subst h5; show nv time = nv time'; rw [ht rfl]
  by_cases h3 : op = 3
  · subst h3; exact hr rfl
  by_cases h4 : op = 4
  · subst h4; exact hp rfl
  unfold evOp
  simp only [if_neg h22, if_neg h5, if_neg h3, if_neg h4]
mutual
def allE (p : Int → Int → Prop) : E → Prop | .mk op n _ args => p op n ∧ allL p args
def allL (p : Int → Int → Prop) : List E → Prop | [] => True | a :: l => allE p a ∧ allL p l
end
mutual
theorem allE_mono {p q : Int → Int → Prop} (h : ∀ o n, p o n → q o n) : ∀ e, allE p e → allE q e
  | .mk op n s args, he => by simp only [allE] at he ⊢; exact ⟨h _ _ he.1, allL_mono h args he.2⟩
theorem allL_mono {p q : Int → Int → Prop} (h : ∀ o n, p o n → q o n) : ∀ l, allL p l → allL q l
  | [], _ => by simp only [allL]
  | a :: l, he => by simp only [allL] at he ⊢; exact ⟨allE_mono h a he.1, allL_mono h l he.2⟩
end
mutual
theorem allE_and {p q : Int → Int → Prop} : ∀ e, allE p e → allE q e → allE (fun o n => p o n ∧ q o n) e
  | .mk op n s args, h1, h2 => by simp only [allE] at h1 h2 ⊢; exact ⟨⟨h1.1, h2.1⟩, allL_and args h1.2 h2.2⟩
theorem allL_and {p q : Int → Int → Prop} : ∀ l, allL p l → allL q l → allL (fun o n => p o n ∧ q o n) l
  | [], _, _ => by simp only [allL]
  | a :: l, h1, h2 => by simp only [allL] at h1 h2 ⊢; exact ⟨allE_and a h1.1 h2.1, allL_and l h1.2 h2.2⟩
end
mutual
theorem evE_congr {cl cl' : Int → List V → V} {time time' : Int} {row row' ps : List V} : ∀ e : E, allE (fun op n => (op = 22 → ∀ l, cl n l = cl' n l) ∧ (op = 5 → time = time') ∧ (op = 3 → at? row n = at? row' n)) e →
    evE cl time row ps e = evE cl' time' row' ps e
  | .mk op n s args, h => by
    simp only [allE] at h
    simp only [evE]
    rw [evEL_congr args h.2]
    exact evOp_congr (fun h' => h.1.1 h' _) h.1.2.1 h.1.2.2 (fun _ => rfl)
theorem evEL_congr {cl cl' : Int → List V → V} {time time' : Int} {row row' ps : List V} : ∀ l : List E, allL (fun op n => (op = 22 → ∀ l, cl n l = cl' n l) ∧ (op = 5 → time = time') ∧ (op = 3 → at? row n = at? row' n)) l →
    evEL cl time row ps l = evEL cl' time' row' ps l
  | [], _ => by simp only [evEL]
  | a :: l, h => by
    simp only [allL] at h
    simp only [evEL]
    rw [evE_congr a h.1, evEL_congr l h.2]
end
/-! ### what has a type -/
mutual
theorem ty_all {fs : List Fn} {cols params : List Int} : ∀ (e : E) (t : Int), ty fs cols params e = some t → allE (fun op n => (op = 22 → 0 ≤ n ∧ n < fs.length) ∧ (op = 3 → 0 ≤ n ∧ n < cols.length) ∧ (op = 4 → 0 ≤ n ∧ n < params.length)) e
  | .mk op n s args, t, h => by
    simp only [ty] at h
    cases hl : tyL fs cols params args with
    | none => rw [hl] at h; cases h
    | some ts =>
      rw [hl] at h
      simp only [allE]
      refine ⟨?_, tyL_all args ts hl⟩
      have hc := tyCase h
      refine ⟨fun ho => ?_, fun ho => ?_, fun ho => ?_⟩
      · subst ho
        cases hc with
        | c22 _ _ _ _ h' => obtain ⟨h0, f, hf, _⟩ := callTy_some h'; have := (List.getElem?_eq_some_iff.1 hf).1; omega
        | num _ _ h' => omega
        | cmp _ _ _ h' => omega
        | log _ _ h' => omega
      · subst ho
        cases hc with
        | c3 _ _ _ h' => obtain ⟨h0, hf⟩ := pickTy_some h'; have := (List.getElem?_eq_some_iff.1 hf).1; omega
        | num _ _ h' => omega
        | cmp _ _ _ h' => omega
        | log _ _ h' => omega
      · subst ho
        cases hc with
        | c4 _ _ _ h' => obtain ⟨h0, hf⟩ := pickTy_some h'; have := (List.getElem?_eq_some_iff.1 hf).1; omega
        | num _ _ h' => omega
        | cmp _ _ _ h' => omega
        | log _ _ h' => omega
theorem tyL_all {fs : List Fn} {cols params : List Int} : ∀ (l : List E) (ts : List Int), tyL fs cols params l = some ts → allL (fun op n => (op = 22 → 0 ≤ n ∧ n < fs.length) ∧ (op = 3 → 0 ≤ n ∧ n < cols.length) ∧ (op = 4 → 0 ≤ n ∧ n < params.length)) l
  | [], ts, h => by simp only [allL]
  | b :: l, ts, h => by
    simp only [tyL] at h
    cases hb : ty fs cols params b with
    | none => rw [hb] at h; cases h
    | some u =>
      rw [hb] at h
      simp only at h
      cases hl : tyL fs cols params l with
      | none => rw [hl] at h; cases h
      | some us =>
        simp only [allL]
        exact ⟨ty_all b u hb, tyL_all l us hl⟩
end
/-! ### the time -/
mutual
theorem timed_all {tl : List Bool} : ∀ e : E, timedE tl e = false → allE (fun op n => op ≠ 5 ∧ (op = 22 → 0 ≤ n → n < tl.length → tl.getD n.toNat false = false)) e
  | .mk op n s args, h => by
    simp only [timedE, Bool.or_eq_false_iff] at h
    simp only [allE]
    obtain ⟨h1, h2, h3⟩ := h
    refine ⟨⟨by simpa using h1, fun ho h0 hl => ?_⟩, timedL_all args h3⟩
    subst ho
    rw [decide_eq_true (show (22 : Int) = 22 ∧ 0 ≤ n ∧ n < tl.length from ⟨rfl, h0, hl⟩), Bool.true_and] at h2
    exact h2
theorem timedL_all {tl : List Bool} : ∀ l : List E, timedL tl l = false → allL (fun op n => op ≠ 5 ∧ (op = 22 → 0 ≤ n → n < tl.length → tl.getD n.toNat false = false)) l
  | [], _ => by simp only [allL]
  | a :: l, h => by
    simp only [timedL, Bool.or_eq_false_iff] at h
    simp only [allL]
    exact ⟨timed_all a h.1, timedL_all l h.2⟩
end
theorem tlL_pre : ∀ (xs : List Fn) (acc : List Bool), ∃ r, tlL acc xs = acc ++ r ∧ r.length = xs.length
  | [], acc => ⟨[], by simp [tlL], rfl⟩
  | f :: xs, acc => by
    obtain ⟨r, h1, h2⟩ := tlL_pre xs (acc ++ [timedE acc f.body])
    exact ⟨timedE acc f.body :: r, by simp only [tlL]; rw [h1]; simp, by simp [h2]⟩
theorem tlL_get : ∀ (xs : List Fn) (acc : List Bool) (k : Nat) (f : Fn), xs[k]? = some f → (tlL acc xs)[acc.length + k]? = some (timedE ((tlL acc xs).take (acc.length + k)) f.body)
  | [], acc, k, f, h => by simp at h
  | x :: xs, acc, 0, f, h => by
    simp only [List.getElem?_cons_zero, Option.some.injEq] at h
    subst h
    simp only [tlL, Nat.add_zero]
    obtain ⟨r, h1, h2⟩ := tlL_pre xs (acc ++ [timedE acc x.body])
    rw [h1]
    simp
  | x :: xs, acc, k + 1, f, h => by
    simp only [List.getElem?_cons_succ] at h
    have := tlL_get xs (acc ++ [timedE acc x.body]) k f h
    simp only [tlL]
    rw [List.length_append, List.length_singleton] at this
    rw [show acc.length + (k + 1) = acc.length + 1 + k by omega]
    exact this
theorem evC_time {fs : List Fn} (hR : FnsOK fs) {time time' : Int} : ∀ (d : Nat), d ≤ fs.length → ∀ n : Int, 0 ≤ n → n < d → (tlL [] fs).getD n.toNat false = false → ∀ l, evC fs time d n l = evC fs time' d n l
  | 0, _, n, h0, h1, _, l => by omega
  | d + 1, hd, n, h0, h1, ht, l => by
    have hlt : n.toNat < fs.length := by omega
    have hg := List.getElem?_eq_getElem hlt
    have htl := tlL_get fs [] n.toNat _ hg
    have hf := hR _ _ hg
    generalize fs[n.toNat] = f at hg htl hf
    obtain ⟨hty, _⟩ := hf
    simp only [List.length_nil, Nat.zero_add] at htl
    rw [List.getD_eq_getElem?_getD, htl, Option.getD_some] at ht
    show (match fs[n.toNat]? with | some f => evE (evC fs time d) time [] l f.body | none => V.z) = (match fs[n.toNat]? with | some f => evE (evC fs time' d) time' [] l f.body | none => V.z)
    rw [hg]
    simp only
    refine evE_congr _ (allE_mono (fun op m hm => ?_) _ (allE_and _ (ty_all _ _ hty) (timed_all _ ht)))
    obtain ⟨⟨a1, a2, a3⟩, b1, b2⟩ := hm
    refine ⟨fun ho l' => ?_, fun ho => absurd ho b1, fun _ => rfl⟩
    obtain ⟨c1, c2⟩ := a1 ho
    rw [List.length_take] at c2
    obtain ⟨r, h1', h2'⟩ := tlL_pre fs []
    have hlen : (tlL [] fs).length = fs.length := by rw [h1']; simpa using h2'
    have hb := b2 ho c1 (by rw [List.length_take, hlen]; omega)
    refine evC_time hR d (by omega) m c1 (by omega) ?_ l'
    rw [List.getD_eq_getElem?_getD] at hb ⊢
    rw [List.getElem?_take, if_pos (by omega)] at hb
    exact hb
theorem evD_time {fs : List Fn} (hR : FnsOK fs) {time time' : Int} {cols : List Int} {row : List V} {e : E} {t : Int} (hty : ty fs cols [] e = some t) (h : timedOf fs e = false) : evD fs time fs.length row [] e = evD fs time' fs.length row [] e := by
  unfold timedOf at h
  refine evE_congr _ (allE_mono (fun op m hm => ?_) _ (allE_and _ (ty_all _ _ hty) (timed_all _ h)))
  obtain ⟨⟨a1, a2, a3⟩, b1, b2⟩ := hm
  refine ⟨fun ho l' => ?_, fun ho => absurd ho b1, fun _ => rfl⟩
  obtain ⟨c1, c2⟩ := a1 ho
  obtain ⟨r, h1', h2'⟩ := tlL_pre fs []
  have hlen : (tlL [] fs).length = fs.length := by rw [h1']; simpa using h2'
  exact evC_time hR fs.length (Nat.le_refl _) m c1 c2 (b2 ho c1 (by rw [hlen]; omega)) l'
/-! ### the columns -/
mutual
theorem reads_all {n : Int} : ∀ e : E, readsN n e = false → allE (fun op m => op = 3 → m ≠ n) e
  | .mk op m s args, h => by
    simp only [readsN, Bool.or_eq_false_iff] at h
    simp only [allE]
    refine ⟨fun ho hm => ?_, readsL_all args h.2⟩
    subst ho hm
    simp at h
theorem readsL_all {n : Int} : ∀ l : List E, readsNL n l = false → allL (fun op m => op = 3 → m ≠ n) l
  | [], _ => by simp only [allL]
  | a :: l, h => by
    simp only [readsNL, Bool.or_eq_false_iff] at h
    simp only [allL]
    exact ⟨reads_all a h.1, readsL_all l h.2⟩
end
mutual
theorem all_reads {n : Int} {p : Int → Int → Prop} : ∀ e : E, allE p e → readsN n e = true → p 3 n
  | .mk op m s args, h, hr => by
    simp only [readsN, Bool.or_eq_true, Bool.and_eq_true, beq_iff_eq] at hr
    simp only [allE] at h
    rcases hr with ⟨rfl, rfl⟩ | hr
    · exact h.1
    · exact allL_reads args h.2 hr
theorem allL_reads {n : Int} {p : Int → Int → Prop} : ∀ l : List E, allL p l → readsNL n l = true → p 3 n
  | [], _, hr => by simp [readsNL] at hr
  | a :: l, h, hr => by
    simp only [readsNL, Bool.or_eq_true] at hr
    simp only [allL] at h
    rcases hr with hr | hr
    · exact all_reads a h.1 hr
    · exact allL_reads l h.2 hr
end
theorem evD_col {fs : List Fn} {time : Int} {cols : List Int} {row : List V} {e : E} {t : Int} {n : Int} {v : V} {d : Nat} (hty : ty fs cols [] e = some t) (h0 : 0 ≤ n) (h : readsN n e = false) : evD fs time d (row.set n.toNat v) [] e = evD fs time d row [] e := by
  refine evE_congr _ (allE_mono (fun op m hm => ?_) _ (allE_and _ (ty_all _ _ hty) (reads_all _ h)))
  obtain ⟨⟨a1, a2, a3⟩, b1⟩ := hm
  refine ⟨fun _ _ => rfl, fun _ => rfl, fun ho => ?_⟩
  have hm0 := (a2 ho).1
  have hne := b1 ho
  unfold at?
  rw [List.getElem?_set, if_neg (by omega)]
end Go.Proofs.Ytjbmdfdgeioecaa.X
