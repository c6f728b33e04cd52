/- Plain laws of evaluation: replaced columns; inlined functions. -/
import Derived.Test.YtjbmdfdgeioecaaN42
import Derived.Test.YtjbmdfdgeioecaaN53
namespace Go.Proofs.Ytjbmdfdgeioecaa.X
open Go.Proofs.Ytjbmdfdgeioecaa.Am Go.Proofs.Ytjbmdfdgeioecaa.F
set_option linter.unusedVariables false
set_option linter.unusedSimpArgs false
/-! ### replaced columns and parameters -/
theorem tyArgs_cols {cols cols' params params' : List Int} {op n : Int} {s : ByteArray} {l : List Int} (h3 : op ≠ 3) (h4 : op ≠ 4) : tyArgs cols params op n s l = tyArgs cols' params' op n s l := by
  match l with
  | [] => show leafTy cols params op n s = leafTy cols' params' op n s; unfold leafTy; simp only [if_neg h3, if_neg h4]
  | [_] => rfl
  | [_, _] => rfl
  | [_, _, _] => rfl
  | _ :: _ :: _ :: _ :: _ => rfl
theorem tyOp_cols {fs : List Fn} {cols cols' params params' : List Int} {op n : Int} {s : ByteArray} {l : List Int} (h3 : op ≠ 3) (h4 : op ≠ 4) : tyOp fs cols params op n s l = tyOp fs cols' params' op n s l := by
  unfold tyOp
  rw [tyArgs_cols h3 h4]
/-- What is replaced, columns (3) or parameters (4): each of the list has the type and the value of its place. -/
structure PutOK (fs : List Fn) (cols params : List Int) (cl : Int → List V → V) (time : Int) (row ps : List V) (us : List E) (ts : List Int) : Prop where
  ty : ∀ (i : Nat) (u : Int), ts[i]? = some u → ∃ x, us[i]? = some x ∧ ty fs cols params x = some u
theorem at_map (f : E → V) (us : List E) (n : Int) (x : E) (h : us[n.toNat]? = some x) : at? (us.map f) n = f x := by
  unfold at?
  rw [List.getElem?_map, h]
  rfl
mutual
theorem put3 {fs : List Fn} {cols : List Int} {cl : Int → List V → V} {time : Int} {row : List V} {us : List E} {ts : List Int} (P : ∀ (i : Nat) (u : Int), ts[i]? = some u → ∃ x, us[i]? = some x ∧ ty fs cols [] x = some u) :
    ∀ (e : E) (t : Int), ty fs ts [] e = some t → ∃ y, putE 3 us e = some y ∧ ty fs cols [] y = some t ∧ evE cl time row [] y = evE cl time (us.map (evE cl time row [])) [] e
  | .mk op n s args, t, h => by
    simp only [ty] at h
    cases hl : tyL fs ts [] args with
    | none => rw [hl] at h; cases h
    | some us' =>
      rw [hl] at h
      by_cases h3 : op = 3
      · subst h3
        have hc := tyCase h
        cases hc with
        | c3 _ _ _ h' =>
          obtain ⟨h0, hf⟩ := pickTy_some h'
          obtain ⟨x, hx, hty⟩ := P _ _ hf
          have hlt := (List.getElem?_eq_some_iff.1 hx).1
          refine ⟨x, ?_, hty, ?_⟩
          · simp only [putE]
            rw [if_pos trivial, if_pos ⟨h0, by omega⟩, hx]
          · simp only [evE]
            exact (at_map (evE cl time row []) us n x hx).symm
        | num _ _ h' => omega
        | cmp _ _ _ h' => omega
        | log _ _ h' => omega
      · obtain ⟨ys, g1, g2, g3⟩ := put3L P args us' hl
        have h4 : op ≠ 4 := by
          rintro rfl
          cases tyCase h with
          | c4 _ _ _ h' => obtain ⟨h0, hf⟩ := pickTy_some h'; simp at hf
          | num _ _ h' => omega
          | cmp _ _ _ h' => omega
          | log _ _ h' => omega
        refine ⟨.mk op n s ys, ?_, ?_, ?_⟩
        · simp only [putE]
          rw [if_neg h3, g1]
        · simp only [ty]
          rw [g2]
          rw [← h]
          exact tyOp_cols h3 h4
        · simp only [evE]
          rw [g3]
          exact evOp_congr (fun _ => rfl) (fun _ => rfl) (fun h' => absurd h' h3) (fun _ => rfl)
theorem put3L {fs : List Fn} {cols : List Int} {cl : Int → List V → V} {time : Int} {row : List V} {us : List E} {ts : List Int} (P : ∀ (i : Nat) (u : Int), ts[i]? = some u → ∃ x, us[i]? = some x ∧ ty fs cols [] x = some u) :
    ∀ (l : List E) (t : List Int), tyL fs ts [] l = some t → ∃ ys, putL 3 us l = some ys ∧ tyL fs cols [] ys = some t ∧ evEL cl time row [] ys = evEL cl time (us.map (evE cl time row [])) [] l
  | [], t, h => by simp only [tyL] at h; exact ⟨[], by simp only [putL], by simp only [tyL]; exact h, by simp only [evEL]⟩
  | a :: l, t, h => by
    simp only [tyL] at h
    cases hb : ty fs ts [] a with
    | none => rw [hb] at h; cases h
    | some u =>
      rw [hb] at h
      simp only at h
      cases hl : tyL fs ts [] l with
      | none => rw [hl] at h; cases h
      | some us' =>
        rw [hl] at h
        obtain ⟨y, a1, a2, a3⟩ := put3 P a u hb
        obtain ⟨ys, b1, b2, b3⟩ := put3L P l us' hl
        exact ⟨y :: ys, by simp only [putL]; rw [a1, b1], by simp only [tyL]; rw [a2, b2]; exact h, by simp only [evEL]; rw [a3, b3]⟩
end
mutual
theorem put4 {fs : List Fn} {cols params : List Int} {cl : Int → List V → V} {time : Int} {row ps : List V} {us : List E} {ts : List Int} (P : ∀ (i : Nat) (u : Int), ts[i]? = some u → ∃ x, us[i]? = some x ∧ ty fs cols params x = some u) :
    ∀ (e : E) (t : Int), ty fs [] ts e = some t → ∃ y, putE 4 us e = some y ∧ ty fs cols params y = some t ∧ evE cl time row ps y = evE cl time [] (us.map (evE cl time row ps)) e
  | .mk op n s args, t, h => by
    simp only [ty] at h
    cases hl : tyL fs [] ts args with
    | none => rw [hl] at h; cases h
    | some us' =>
      rw [hl] at h
      by_cases h4 : op = 4
      · subst h4
        have hc := tyCase h
        cases hc with
        | c4 _ _ _ h' =>
          obtain ⟨h0, hf⟩ := pickTy_some h'
          obtain ⟨x, hx, hty⟩ := P _ _ hf
          have hlt := (List.getElem?_eq_some_iff.1 hx).1
          refine ⟨x, ?_, hty, ?_⟩
          · simp only [putE]
            rw [if_pos trivial, if_pos ⟨h0, by omega⟩, hx]
          · simp only [evE]
            exact (at_map (evE cl time row ps) us n x hx).symm
        | num _ _ h' => omega
        | cmp _ _ _ h' => omega
        | log _ _ h' => omega
      · obtain ⟨ys, g1, g2, g3⟩ := put4L P args us' hl
        have h3 : op ≠ 3 := by
          rintro rfl
          cases tyCase h with
          | c3 _ _ _ h' => obtain ⟨h0, hf⟩ := pickTy_some h'; simp at hf
          | num _ _ h' => omega
          | cmp _ _ _ h' => omega
          | log _ _ h' => omega
        refine ⟨.mk op n s ys, ?_, ?_, ?_⟩
        · simp only [putE]
          rw [if_neg h4, g1]
        · simp only [ty]
          rw [g2]
          rw [← h]
          exact tyOp_cols h3 h4
        · simp only [evE]
          rw [g3]
          exact evOp_congr (fun _ => rfl) (fun _ => rfl) (fun h' => absurd h' h3) (fun h' => absurd h' h4)
theorem put4L {fs : List Fn} {cols params : List Int} {cl : Int → List V → V} {time : Int} {row ps : List V} {us : List E} {ts : List Int} (P : ∀ (i : Nat) (u : Int), ts[i]? = some u → ∃ x, us[i]? = some x ∧ ty fs cols params x = some u) :
    ∀ (l : List E) (t : List Int), tyL fs [] ts l = some t → ∃ ys, putL 4 us l = some ys ∧ tyL fs cols params ys = some t ∧ evEL cl time row ps ys = evEL cl time [] (us.map (evE cl time row ps)) l
  | [], t, h => by simp only [tyL] at h; exact ⟨[], by simp only [putL], by simp only [tyL]; exact h, by simp only [evEL]⟩
  | a :: l, t, h => by
    simp only [tyL] at h
    cases hb : ty fs [] ts a with
    | none => rw [hb] at h; cases h
    | some u =>
      rw [hb] at h
      simp only at h
      cases hl : tyL fs [] ts l with
      | none => rw [hl] at h; cases h
      | some us' =>
        rw [hl] at h
        obtain ⟨y, a1, a2, a3⟩ := put4 P a u hb
        obtain ⟨ys, b1, b2, b3⟩ := put4L P l us' hl
        exact ⟨y :: ys, by simp only [putL]; rw [a1, b1], by simp only [tyL]; rw [a2, b2]; exact h, by simp only [evEL]; rw [a3, b3]⟩
end
/-! ### inlined functions -/
abbrev cl0 : Int → List V → V := fun _ _ => V.z
/-- The inlined bodies: typed without functions, of the same value. -/
def BsOK (fs : List Fn) (time : Int) (bs : List (Option E)) (k : Nat) : Prop :=
  ∀ (i : Nat) (f : Fn) (b : E), i < k → fs[i]? = some f → bs[i]? = some (some b) → ty [] [] f.params b = some f.result ∧ ∀ (d : Nat), i < d → ∀ l, evE cl0 time [] l b = evC fs time d i l
theorem tyOp_fs {fs gs : List Fn} {cols params : List Int} {op n : Int} {s : ByteArray} {l : List Int} (h : op ≠ 22) : tyOp fs cols params op n s l = tyOp gs cols params op n s l := by
  unfold tyOp
  simp only [if_neg h]
theorem tyL_get {fs : List Fn} {cols params : List Int} : ∀ {l : List E} {ts : List Int}, tyL fs cols params l = some ts → ∀ (i : Nat) (u : Int), ts[i]? = some u → ∃ x, l[i]? = some x ∧ ty fs cols params x = some u
  | [], ts, h, i, u, hu => by simp only [tyL, Option.some.injEq] at h; subst h; simp at hu
  | b :: l, ts, h, i, u, hu => by
    simp only [tyL] at h
    cases hb : ty fs cols params b with
    | none => rw [hb] at h; cases h
    | some u' =>
      rw [hb] at h
      simp only at h
      cases hl : tyL fs cols params l with
      | none => rw [hl] at h; cases h
      | some us =>
        rw [hl] at h
        simp only [Option.some.injEq] at h
        subst h
        match i with
        | 0 => simp only [List.getElem?_cons_zero, Option.some.injEq] at hu; subst hu; exact ⟨b, rfl, hb⟩
        | i + 1 => simp only [List.getElem?_cons_succ] at hu ⊢; exact tyL_get hl i u hu
theorem cap_eq {x y : E} (h : capE x = some y) : y = x := by
  unfold capE at h
  split at h
  · cases h
  · cases h; rfl
mutual
theorem exp_ok {fs : List Fn} {time : Int} {bs : List (Option E)} {k d : Nat} (hkd : k ≤ d) (hlen : bs.length = k) (hk : k ≤ fs.length) (B : BsOK fs time bs k) {cols params : List Int} {row ps : List V} :
    ∀ (e y : E) (t : Int), ty (fs.take k) cols params e = some t → expE bs e = some y → ty [] cols params y = some t ∧ evE cl0 time row ps y = evE (evC fs time d) time row ps e
  | .mk op n s args, y, t, h, hy => by
    simp only [ty] at h
    cases hl : tyL (fs.take k) cols params args with
    | none => rw [hl] at h; cases h
    | some ts =>
      rw [hl] at h
      simp only [expE] at hy
      cases hx : expL bs args with
      | none => rw [hx] at hy; cases hy
      | some us =>
        rw [hx] at hy
        obtain ⟨g1, g2⟩ := expL_ok hkd hlen hk B args us ts hl hx
        simp only at hy h
        unfold expOp at hy
        by_cases h22 : op = 22
        · subst h22
          cases tyCase h with
          | num _ _ h' => omega
          | cmp _ _ _ h' => omega
          | log _ _ h' => omega
          | c22 _ _ _ _ h' =>
            obtain ⟨h0, f, hf, hp, hr⟩ := callTy_some h'
            have hlt := (List.getElem?_eq_some_iff.1 hf).1
            rw [List.length_take] at hlt
            rw [if_pos ⟨rfl, h0, by omega⟩] at hy
            have hf' : fs[n.toNat]? = some f := by rw [List.getElem?_take, if_pos (by omega)] at hf; exact hf
            cases hb : bs[n.toNat]? with
            | none => rw [hb] at hy; cases hy
            | some o =>
              rw [hb] at hy
              cases o with
              | none => cases hy
              | some b =>
                obtain ⟨b1, b2⟩ := B n.toNat f b (by omega) hf' hb
                rw [hp, hr] at b1
                obtain ⟨z, p1, p2, p3⟩ := put4 (cl := cl0) (time := time) (row := row) (ps := ps) (fun i u hu => tyL_get g1 i u hu) b t b1
                simp only at hy
                rw [p1, Option.getD_some] at hy
                have := cap_eq hy
                subst this
                refine ⟨p2, ?_⟩
                rw [p3, b2 d (by omega)]
                simp only [evE]
                rw [← g2, ← evEL_map]
                show evC fs time d (n.toNat : Int) _ = evC fs time d n _
                rw [Int.toNat_of_nonneg h0]
        · rw [if_neg (fun q => h22 q.1)] at hy
          have := cap_eq hy
          subst this
          refine ⟨?_, ?_⟩
          · simp only [ty]
            rw [g1]
            rw [← h]
            exact tyOp_fs h22
          · simp only [evE]
            rw [g2]
            exact evOp_congr (fun h' => absurd h' h22) (fun _ => rfl) (fun _ => rfl) (fun _ => rfl)
theorem expL_ok {fs : List Fn} {time : Int} {bs : List (Option E)} {k d : Nat} (hkd : k ≤ d) (hlen : bs.length = k) (hk : k ≤ fs.length) (B : BsOK fs time bs k) {cols params : List Int} {row ps : List V} :
    ∀ (l ys : List E) (ts : List Int), tyL (fs.take k) cols params l = some ts → expL bs l = some ys → tyL [] cols params ys = some ts ∧ evEL cl0 time row ps ys = evEL (evC fs time d) time row ps l
  | [], ys, ts, h, hy => by
    simp only [tyL] at h
    simp only [expL, Option.some.injEq] at hy
    subst hy
    exact ⟨by simp only [tyL]; exact h, by simp only [evEL]⟩
  | a :: l, ys, ts, h, hy => by
    simp only [tyL] at h
    simp only [expL] at hy
    cases hb : ty (fs.take k) cols params a with
    | none => rw [hb] at h; cases h
    | some u =>
      rw [hb] at h
      simp only at h
      cases hl : tyL (fs.take k) cols params l with
      | none => rw [hl] at h; cases h
      | some us' =>
        rw [hl] at h
        cases hx : expE bs a with
        | none => rw [hx] at hy; cases hy
        | some y =>
          rw [hx] at hy
          simp only at hy
          cases hz : expL bs l with
          | none => rw [hz] at hy; cases hy
          | some zs =>
            rw [hz] at hy
            simp only [Option.some.injEq] at hy
            subst hy
            obtain ⟨a1, a2⟩ := exp_ok hkd hlen hk B (row := row) (ps := ps) a y u hb hx
            obtain ⟨b1, b2⟩ := expL_ok hkd hlen hk B (row := row) (ps := ps) l zs us' hl hz
            exact ⟨by simp only [tyL]; rw [a1, b1]; exact h, by simp only [evEL]; rw [a2, b2]⟩
end
theorem bs_ok {fs : List Fn} (hR : FnsOK fs) {time : Int} : ∀ (xs : List Fn) (k : Nat) (bs : List (Option E)), fs.drop k = xs → k ≤ fs.length → bs.length = k → BsOK fs time bs k → BsOK fs time (bsL bs xs) fs.length ∧ (bsL bs xs).length = fs.length
  | [], k, bs, h, hk, hl, B => by
    have : fs.length ≤ k := by have := congrArg List.length h; simp at this; omega
    have : k = fs.length := by omega
    subst this
    simp only [bsL]
    exact ⟨B, hl⟩
  | f :: xs, k, bs, h, hk, hl, B => by
    obtain ⟨hlt, hi, hd⟩ := drop_cons h
    simp only [bsL]
    refine bs_ok hR xs (k + 1) _ hd hlt (by simp [hl]) ?_
    intro i g b hi' hg hb
    by_cases hik : i < k
    · rw [List.getElem?_append_left (by omega)] at hb
      exact B i g b hik hg hb
    · have : i = k := by omega
      subst this
      rw [hi] at hg
      cases hg
      rw [List.getElem?_append_right (by omega), hl, Nat.sub_self, List.getElem?_cons_zero, Option.some.injEq] at hb
      obtain ⟨r1, r2⟩ := hR _ _ hi
      refine ⟨(exp_ok (d := i) (row := []) (ps := []) (Nat.le_refl _) hl hk B f.body b _ r1 hb).1, fun d hid l => ?_⟩
      obtain ⟨d, rfl⟩ : ∃ d', d = d' + 1 := ⟨d - 1, by omega⟩
      rw [(exp_ok (d := d) (row := []) (ps := l) (by omega) hl hk B f.body b _ r1 hb).2]
      show _ = (match fs[((i : Int)).toNat]? with | some f => evE (evC fs time d) time [] l f.body | none => V.z)
      rw [Int.toNat_natCast, hi]
theorem inl_ok {fs : List Fn} (hR : FnsOK fs) {time : Int} {cols : List Int} {row : List V} {e y : E} {t : Int} (h : ty fs cols [] e = some t) (hy : inlE fs e = some y) : ty [] cols [] y = some t ∧ evD [] time 0 row [] y = evD fs time fs.length row [] e ∧ parts y ≤ 1000 := by
  unfold inlE at hy
  cases hx : expE (bsL [] fs) e with
  | none => rw [hx] at hy; cases hy
  | some x =>
    rw [hx] at hy
    simp only at hy
    split at hy
    · cases hy
    · simp only [Option.some.injEq] at hy
      subst hy
      obtain ⟨B, hl⟩ := bs_ok hR (time := time) fs 0 [] rfl (Nat.zero_le _) rfl (fun i _ _ h => by omega)
      obtain ⟨g1, g2⟩ := exp_ok (d := fs.length) (row := row) (ps := []) (Nat.le_refl _) hl (Nat.le_refl _) B e x t (by rw [List.take_length]; exact h) hx
      refine ⟨g1, ?_, expE_parts hx⟩
      show evE (evC [] time 0) time row [] x = _
      have : evC [] time 0 = cl0 := by funext n l; rfl
      rw [this]
      exact g2
end Go.Proofs.Ytjbmdfdgeioecaa.X
