/- Evaluation with counting: the bound. -/
import Derived.Test.YtjbmdfdgeioecaaN31
namespace Go.Proofs.Ytjbmdfdgeioecaa.X
open Go.Proofs.Ytjbmdfdgeioecaa.Am Go.Proofs.Ytjbmdfdgeioecaa.F
set_option linter.unusedVariables false
set_option linter.unusedSimpArgs false
set_option maxRecDepth 10000
theorem cnt_args {l : List Int} {e : E} (hl : ∀ x ∈ l, CapI x) (h21 : e.op = 21 → e.args.length = 3) (h22 : e.op = 22 → 0 ≤ e.n ∧ e.n < l.length) (h : cnt l e ≤ 10000) :
    (∀ a ∈ e.args, cnt l a ≤ cnt l e) ∧ (e.op ≠ 21 → 1 + sumI (e.args.map (cnt l)) + (if e.op = 22 then l.getD e.n.toNat 0 else 0) ≤ cnt l e) ∧ (e.op = 22 → l.getD e.n.toNat 0 ≤ cnt l e) := by
  rw [cnt_eq] at h ⊢
  have hk := cntL_ok hl e.args
  rw [cntL_map] at h hk ⊢
  have hk0 : ∀ k ∈ e.args.map (cnt l), 0 ≤ k := fun k hkk => by have := hk k hkk; unfold CapI at this; omega
  have hsum : ∀ a ∈ e.args, cnt l a ≤ sumI (e.args.map (cnt l)) := fun a ha => sumI_mem _ hk0 _ (List.mem_map_of_mem ha)
  by_cases c21 : e.op = 21
  · obtain ⟨x, y, z, hx⟩ : ∃ x y z, e.args = [x, y, z] := by
      have := h21 c21
      match e.args, this with
      | [x, y, z], _ => exact ⟨x, y, z, rfl⟩
    rw [c21] at h ⊢
    rw [hx] at h hk ⊢
    simp only [List.map_cons, List.map_nil] at h hk ⊢
    have h1 := cntOp_21 rfl h
    have ha := hk (cnt l x) (by simp)
    have hb := hk (cnt l y) (by simp)
    have hc := hk (cnt l z) (by simp)
    unfold CapI at ha hb hc
    rw [h1]
    refine ⟨fun a hm => ?_, fun q => absurd rfl q, fun q => by omega⟩
    simp only [List.mem_cons, List.not_mem_nil, or_false] at hm
    unfold mxI
    rcases hm with rfl | rfl | rfl <;> split <;> omega
  · by_cases c22 : e.op = 22
    · rw [c22] at h ⊢
      obtain ⟨h1, h2⟩ := cntOp_22 hl hk (h22 c22) h
      have hn := sumI_nonneg _ hk0
      rw [h1]
      exact ⟨fun a ha => by have := hsum a ha; omega, fun _ => by simp, fun _ => by omega⟩
    · have h1 := cntOp_else hk c21 c22 h
      rw [h1]
      exact ⟨fun a ha => by have := hsum a ha; omega, fun _ => by rw [if_neg c22]; omega, fun q => absurd q c22⟩
theorem map_getD {f : E → Int} {l : List E} {i : Nat} {a : E} (h : l[i]? = some a) : (l.map f).getD i 0 = f a := by
  rw [List.getD_eq_getElem?_getD, List.getElem?_map, h]; rfl
theorem rr_step {fs : List Fn} {time : Int} {d : Nat} (hR : FnsOK fs) (hd : d ≤ fs.length) {cols params : List Int} {row ps : List V} (hrow : FitsL row cols) (hps : FitsL ps params)
    (hcall : ∀ n l t vs, callTy (fs.take d) n l = some t → FitsL vs l → (bodiesL [] fs).getD n.toNat 0 ≤ 10000 → ∃ f, 0 ≤ n ∧ fs[n.toNat]? = some f ∧ RR 16 [slF fs, f.body.av, I time, slV [], slV vs] [] = some (cv (evC fs time d n vs) (nC fs time d n vs), []) ∧ 1 ≤ nC fs time d n vs ∧ nC fs time d n vs ≤ (bodiesL [] fs).getD n.toNat 0) :
    ∀ (e : E) (t : Int), parts e ≤ 1000000 → ty (fs.take d) cols params e = some t → cnt (bodiesL [] fs) e ≤ 10000 → RnGood fs time d row ps e := by
  apply E.ind (p := fun e => ∀ t, parts e ≤ 1000000 → ty (fs.take d) cols params e = some t → cnt (bodiesL [] fs) e ≤ 10000 → RnGood fs time d row ps e)
  intro e ih t hp ht hb
  have hcap := bodiesL_ok fs [] (fun x hx => by cases hx)
  have hlen : (bodiesL [] fs).length = fs.length := by rw [bodiesL_len]; simp
  generalize hL : bodiesL [] fs = L at hcall hb hcap hlen ih
  have hpe := hp
  rw [parts_eq] at hp
  have hn : e.args.length ≤ 1000000 := by have := partsL_len e.args; omega
  obtain ⟨s1, s2, s3⟩ := ty_shape ht
  rw [List.length_take] at s3
  have s3' : e.op = 22 → 0 ≤ e.n ∧ e.n < L.length := fun q => by have := s3 q; omega
  obtain ⟨b1, b2, b3⟩ := cnt_args hcap s2 s3' hb
  have ih' : ∀ a ∈ e.args, RnGood fs time d row ps a := fun a ha => by
    obtain ⟨u, hu⟩ := s1 a ha
    exact ih a ha u (by have := partsL_mem ha; omega) hu (by have := b1 a ha; omega)
  have hok : ∀ a ∈ e.args, ∀ u, ty (fs.take d) cols params a = some u → OkV u (evD fs time d row ps a) := fun a ha u hu =>
    (ev_ok (time := time) hR d hd hrow hps a u (by have := partsL_mem ha; omega) hu).2
  rw [ty_eq] at ht
  cases hl : tyL (fs.take d) cols params e.args with
  | none => rw [hl] at ht; cases ht
  | some ts =>
    rw [hl] at ht
    simp only at ht
    have hf : FitsL (e.args.map (evD fs time d row ps)) ts := tyL_fits hl hok
    have hr : ∀ a ∈ e.args, RR 16 [slF fs, a.av, I time, slV row, slV ps] [] = some (cv (evD fs time d row ps a) (nD fs time d row ps a), []) := fun a ha => (ih' a ha).1
    have hcc : ∀ a ∈ e.args, 0 ≤ nD fs time d row ps a ∧ nD fs time d row ps a ≤ 10000 := fun a ha => by
      have h1 := (ih' a ha).2; have h2 := b1 a ha; rw [hL] at h1; omega
    have hle : sumI (e.args.map (nD fs time d row ps)) ≤ sumI (e.args.map (cnt L)) := sumI_le _ fun a ha => by have := (ih' a ha).2.2; rw [hL] at this; exact this
    have hnn : 0 ≤ sumI (e.args.map (nD fs time d row ps)) := sumI_nonneg _ fun k hk => by obtain ⟨a, ha, rfl⟩ := List.mem_map.1 hk; exact (hcc a ha).1
    have hev : evD fs time d row ps e = evOp (evC fs time d) time row ps e.op e.n e.s (e.args.map (evD fs time d row ps)) := by
      show evE (evC fs time d) time row ps e = _
      rw [evE_eq, evEL_map]
      rfl
    have hnv : nD fs time d row ps e = nOp (nC fs time d) e.op e.n (e.args.map (evD fs time d row ps)) (e.args.map (nD fs time d row ps)) := by
      show nE (evC fs time d) (nC fs time d) time row ps e = _
      rw [nE_eq, evEL_map, nEL_map]
      rfl
    have hc := tyCase ht
    unfold RnGood
    rw [hev, hnv, hL]
    by_cases h21 : e.op = 21
    · rw [h21] at hc ⊢
      generalize e.n = n at hc ⊢
      generalize e.s = s at hc ⊢
      cases hc with
      | num _ _ hq => omega
      | cmp _ _ _ hq => omega
      | log _ _ hq => omega
      | c21 _ b =>
        obtain ⟨vc, va, vb, hg, h1, h2, h3⟩ := fits3 hf
        obtain ⟨x, y, z, hx, rfl, rfl, rfl⟩ := map3 hg
        have mx : x ∈ e.args := by rw [hx]; simp
        have my : y ∈ e.args := by rw [hx]; simp
        have mz : z ∈ e.args := by rw [hx]; simp
        have hcb : cnt L e = 1 + cnt L x + mxI (cnt L y) (cnt L z) := by
          rw [cnt_eq, h21, cntL_map, hx] at hb ⊢
          exact cntOp_21 rfl hb
        have gx := (ih' x mx).2; have gy := (ih' y my).2; have gz := (ih' z mz).2
        rw [hL] at gx gy gz
        have cx := hcc x mx; have cy := hcc y my; have cz := hcc z mz
        rw [hx]
        have he : evOp (evC fs time d) time row ps 21 0 s [evD fs time d row ps x, evD fs time d row ps y, evD fs time d row ps z] = if (evD fs time d row ps x).n = 1 then evD fs time d row ps y else evD fs time d row ps z := rfl
        have hne : nOp (nC fs time d) 21 0 [evD fs time d row ps x, evD fs time d row ps y, evD fs time d row ps z] [nD fs time d row ps x, nD fs time d row ps y, nD fs time d row ps z] = 1 + nD fs time d row ps x + (if (evD fs time d row ps x).n = 1 then nD fs time d row ps y else nD fs time d row ps z) := rfl
        simp only [List.map_cons, List.map_nil]
        rw [he, hne, hcb]
        unfold mxI
        by_cases hv : (evD fs time d row ps x).n = 1
        · rw [if_pos hv, if_pos hv]
          refine ⟨rr_if h21 hx (hr x mx) (by rw [if_pos hv]; exact hr y my) cx cy, by omega, ?_⟩
          split <;> omega
        · rw [if_neg hv, if_neg hv]
          refine ⟨rr_if h21 hx (hr x mx) (by rw [if_neg hv]; exact hr z mz) cx cz, by omega, ?_⟩
          split <;> omega
    · have b2' := b2 h21
      by_cases h22 : e.op = 22
      · rw [if_pos h22] at b2'
        have hc' : callTy (fs.take d) e.n ts = some t := by
          unfold tyOp at ht
          by_cases hq : noS e.s = false ∧ e.op ≠ 1
          · rw [if_pos hq] at ht; cases ht
          · rw [if_neg hq, if_pos h22] at ht; exact ht
        obtain ⟨f, h0, h1, h2, h3, h4⟩ := hcall e.n ts t _ hc' hf (by have := b3 h22; omega)
        have he : evOp (evC fs time d) time row ps e.op e.n e.s (e.args.map (evD fs time d row ps)) = evC fs time d e.n (e.args.map (evD fs time d row ps)) := by rw [h22]; rfl
        have hne : nOp (nC fs time d) e.op e.n (e.args.map (evD fs time d row ps)) (e.args.map (nD fs time d row ps)) = 1 + sumI (e.args.map (nD fs time d row ps)) + nC fs time d e.n (e.args.map (evD fs time d row ps)) := by rw [h22]; rfl
        rw [he, hne]
        exact ⟨rr_go h21 hr hcc hn (rr_22 h22 h0 h1 h2 (wrap_ok (by omega) (by omega))), by omega, by omega⟩
      · rw [if_neg h22] at b2'
        have hne : nOp (nC fs time d) e.op e.n (e.args.map (evD fs time d row ps)) (e.args.map (nD fs time d row ps)) = 1 + sumI (e.args.map (nD fs time d row ps)) := by unfold nOp; rw [if_neg h21, if_neg h22]
        rw [hne]
        refine ⟨rr_go h21 hr hcc hn ?_, by omega, by omega⟩
        clear hr hcc ih ih' hok b1 b2 b3 hcall hev hnv hl hle hnn
        generalize e.args.map (evD fs time d row ps) = vv at hf ⊢
        generalize 1 + sumI (e.args.map (nD fs time d row ps)) = m
        generalize ho : e.op = op at hc h21 h22
        generalize hnn : e.n = n at hc
        generalize hs : e.s = s at hc
        rw [← ho, ← hnn, ← hs]
        cases hc with
        | c0 => rw [ho]; exact rr_op (by omega) (by omega) (by omega) (by omega) (ra_0 ho)
        | c1 => rw [ho]; exact rr_op (by omega) (by omega) (by omega) (by omega) (ra_1 ho)
        | c2 => rw [ho]; exact rr_op (by omega) (by omega) (by omega) (by omega) (ra_2 ho)
        | c3 _ _ _ h =>
          obtain ⟨h0, h1⟩ := pickTy_some h
          obtain ⟨v, h2, h3⟩ := hrow.pick h1
          have he : evOp (evC fs time d) time row ps e.op e.n e.s vv = v := by rw [ho, hnn]; show at? row n = v; unfold at?; rw [h2]; rfl
          rw [he]
          exact rr_3 ho (by rw [hnn]; exact h0) (by rw [hnn]; exact h2)
        | c4 _ _ _ h =>
          obtain ⟨h0, h1⟩ := pickTy_some h
          obtain ⟨v, h2, h3⟩ := hps.pick h1
          have he : evOp (evC fs time d) time row ps e.op e.n e.s vv = v := by rw [ho, hnn]; show at? ps n = v; unfold at?; rw [h2]; rfl
          rw [he]
          exact rr_4 ho (by rw [hnn]; exact h0) (by rw [hnn]; exact h2)
        | c5 => rw [ho]; exact rr_5 ho
        | c6 =>
          obtain ⟨a, rfl, _⟩ := fits1 hf
          rw [ho]; exact rr_op (by omega) (by omega) (by omega) (by omega) (ra_6 ho)
        | c7 =>
          obtain ⟨a, rfl, _⟩ := fits1 hf
          rw [ho]; exact rr_op (by omega) (by omega) (by omega) (by omega) (ra_7 ho)
        | c20 =>
          obtain ⟨a, rfl, _⟩ := fits1 hf
          rw [ho]; exact rr_op (by omega) (by omega) (by omega) (by omega) (ra_20 ho)
        | num _ _ h =>
          obtain ⟨a, b, rfl, ha, hb⟩ := fits2 hf
          exact rr_op (by omega) (by omega) (by omega) (by omega) (fe_ra ha hb (by omega))
        | cmp _ _ _ h =>
          obtain ⟨a, b, rfl, ha, hb⟩ := fits2 hf
          exact rr_op (by omega) (by omega) (by omega) (by omega) (fe_ra ha hb (by omega))
        | log _ _ h =>
          obtain ⟨a, b, rfl, ha, hb⟩ := fits2 hf
          exact rr_op (by omega) (by omega) (by omega) (by omega) (fe_ra ha hb (by omega))
        | c19 =>
          obtain ⟨a, b, rfl, ha, hb⟩ := fits2 hf
          exact rr_op (by omega) (by omega) (by omega) (by omega) (fe_ra ha hb (by omega))
        | c21 => omega
        | c22 => omega
theorem rn_ok {fs : List Fn} {time : Int} (hR : FnsOK fs) : ∀ (d : Nat), d ≤ fs.length → ∀ {cols params : List Int} {row ps : List V}, FitsL row cols → FitsL ps params →
    ∀ (e : E) (t : Int), parts e ≤ 1000000 → ty (fs.take d) cols params e = some t → cnt (bodiesL [] fs) e ≤ 10000 → RnGood fs time d row ps e
  | 0, hd, cols, params, row, ps, hrow, hps, e, t, hp, ht, hb => by
    refine rr_step hR hd hrow hps ?_ e t hp ht hb
    intro n l t vs h _ _
    obtain ⟨_, f, hf, _⟩ := callTy_some h
    simp at hf
  | d + 1, hd, cols, params, row, ps, hrow, hps, e, t, hp, ht, hb => by
    refine rr_step hR hd hrow hps ?_ e t hp ht hb
    intro n l t vs h hv hbn
    obtain ⟨h0, f, hf, rfl, rfl⟩ := callTy_some h
    rw [List.getElem?_take] at hf
    split at hf
    · rename_i hlt
      obtain ⟨h1, h2⟩ := hR _ _ hf
      have h3 := ty_mono (callTy_take (fs := fs) (i := n.toNat) (j := d) (by omega)) f.body f.result h1
      have hbl := bodiesL_get fs [] n.toNat f hf
      rw [List.length_nil, Nat.zero_add] at hbl
      have hlen : (bodiesL [] fs).length = fs.length := by rw [bodiesL_len]; simp
      have hext : cnt ((bodiesL [] fs).take n.toNat) f.body = cnt (bodiesL [] fs) f.body :=
        cnt_ext (fs := fs.take n.toNat) (by rw [List.length_take, List.length_take]; omega) (by rw [List.length_take]; omega) (fun k hk => by rw [List.length_take] at hk; rw [List.getElem?_take, if_pos (by omega)]) f.body f.result h1
      have hgd : (bodiesL [] fs).getD n.toNat 0 = cnt (bodiesL [] fs) f.body := by rw [List.getD_eq_getElem?_getD, hbl, hext]; rfl
      rw [hgd] at hbn ⊢
      have h4 := rn_ok (time := time) hR d (by omega) (cols := []) (row := []) (ps := vs) trivial hv f.body f.result h2 h3 hbn
      have he : evC fs time (d + 1) n vs = evD fs time d [] vs f.body := by
        show (match fs[n.toNat]? with | some f => evE (evC fs time d) time [] vs f.body | none => V.z) = _
        rw [hf]; rfl
      have hn : nC fs time (d + 1) n vs = nD fs time d [] vs f.body := by
        show (match fs[n.toNat]? with | some f => nE (evC fs time d) (nC fs time d) time [] vs f.body | none => 0) = _
        rw [hf]; rfl
      rw [he, hn]
      exact ⟨f, h0, hf, h4.1, h4.2⟩
    · cases hf
end Go.Proofs.Ytjbmdfdgeioecaa.X
