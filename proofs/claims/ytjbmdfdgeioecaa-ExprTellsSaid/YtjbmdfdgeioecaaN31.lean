/- Evaluation with counting, by the answer of the document: any expression that has a type. -/
import Derived.Test.YtjbmdfdgeioecaaN30
namespace Go.Proofs.Ytjbmdfdgeioecaa.X
open Go.Proofs.Ytjbmdfdgeioecaa.Am Go.Proofs.Ytjbmdfdgeioecaa.F
set_option linter.unusedVariables false
set_option linter.unusedSimpArgs false
set_option maxRecDepth 10000
def nOp (cn : Int → List V → Int) (op n : Int) (l : List V) (ks : List Int) : Int :=
  if op = 21 then 1 + ks.getD 0 0 + (if (at? l 0).n = 1 then ks.getD 1 0 else ks.getD 2 0) else if op = 22 then 1 + sumI ks + cn n l else 1 + sumI ks
mutual
def nE (cl : Int → List V → V) (cn : Int → List V → Int) (time : Int) (row ps : List V) : E → Int | .mk op n _ args => nOp cn op n (evEL cl time row ps args) (nEL cl cn time row ps args)
def nEL (cl : Int → List V → V) (cn : Int → List V → Int) (time : Int) (row ps : List V) : List E → List Int | [] => [] | a :: l => nE cl cn time row ps a :: nEL cl cn time row ps l
end
theorem nE_eq (cl : Int → List V → V) (cn : Int → List V → Int) (time : Int) (row ps : List V) (e : E) : nE cl cn time row ps e = nOp cn e.op e.n (evEL cl time row ps e.args) (nEL cl cn time row ps e.args) := by cases e; simp only [nE, E.args, E.op, E.n]
theorem nEL_map (cl : Int → List V → V) (cn : Int → List V → Int) (time : Int) (row ps : List V) : ∀ l : List E, nEL cl cn time row ps l = l.map (nE cl cn time row ps)
  | [] => rfl
  | a :: l => by simp only [nEL, List.map_cons, nEL_map cl cn time row ps l]
def nC (fs : List Fn) (time : Int) : Nat → Int → List V → Int
  | 0, _, _ => 0
  | d + 1, n, l => match fs[n.toNat]? with | some f => nE (evC fs time d) (nC fs time d) time [] l f.body | none => 0
def nD (fs : List Fn) (time : Int) (d : Nat) (row ps : List V) (e : E) : Int := nE (evC fs time d) (nC fs time d) time row ps e
theorem cntL_map (l : List Int) : ∀ es : List E, cntL l es = es.map (cnt l)
  | [] => rfl
  | a :: es => by simp only [cntL, List.map_cons, cntL_map l es]
theorem capM_le {x : Int} (h : capM x ≤ 10000) : capM x = x := by
  unfold capM at *
  by_cases hx : 1099511627776 < x
  · rw [if_pos hx] at h; omega
  · rw [if_neg hx]
theorem capM_self {x : Int} (h : x ≤ 1099511627776) : capM x = x := by unfold capM; rw [if_neg (by omega)]
theorem cfold_mono : ∀ (ks : List Int) (n : Int), CapI n → (∀ k ∈ ks, CapI k) → n ≤ cfold n ks
  | [], n, _, _ => Int.le_refl n
  | k :: ks, n, hn, hk => by
    have hkk := hk k List.mem_cons_self
    unfold CapI at hn hkk
    have h1 := cfold_mono ks (capM (n + k)) (capM_ok (by omega)) (fun x hx => hk x (List.mem_cons_of_mem _ hx))
    show n ≤ cfold (capM (n + k)) ks
    have : n ≤ capM (n + k) := by unfold capM; split <;> omega
    omega
theorem cfold_sum : ∀ (ks : List Int) (n : Int), CapI n → (∀ k ∈ ks, CapI k) → cfold n ks ≤ 10000 → cfold n ks = n + sumI ks
  | [], n, _, _, _ => by simp only [cfold, sumI]; omega
  | k :: ks, n, hn, hk, h => by
    have hkk := hk k List.mem_cons_self
    unfold CapI at hn hkk
    have hk' : ∀ x ∈ ks, CapI x := fun x hx => hk x (List.mem_cons_of_mem _ hx)
    have hc : CapI (capM (n + k)) := capM_ok (by omega)
    have h1 := cfold_mono ks (capM (n + k)) hc hk'
    change cfold (capM (n + k)) ks ≤ 10000 at h
    have h2 := capM_le (x := n + k) (by omega)
    have h3 := cfold_sum ks (capM (n + k)) hc hk' h
    show cfold (capM (n + k)) ks = n + (k + sumI ks)
    rw [h3, h2]
    omega
theorem sumI_nonneg : ∀ (ks : List Int), (∀ k ∈ ks, 0 ≤ k) → 0 ≤ sumI ks
  | [], _ => Int.le_refl 0
  | k :: ks, h => by
    have h1 := h k List.mem_cons_self
    have h2 := sumI_nonneg ks (fun x hx => h x (List.mem_cons_of_mem _ hx))
    simp only [sumI]; omega
theorem sumI_mem : ∀ (ks : List Int), (∀ k ∈ ks, 0 ≤ k) → ∀ k ∈ ks, k ≤ sumI ks
  | [], _, k, hk => by cases hk
  | x :: ks, h, k, hk => by
    have h1 := h x List.mem_cons_self
    have h0 : ∀ k ∈ ks, 0 ≤ k := fun x hx => h x (List.mem_cons_of_mem _ hx)
    have h2 := sumI_nonneg ks h0
    simp only [sumI]
    rcases List.mem_cons.1 hk with rfl | hk
    · omega
    · have := sumI_mem ks h0 k hk; omega
theorem sumI_le {f g : E → Int} : ∀ (l : List E), (∀ a ∈ l, f a ≤ g a) → sumI (l.map f) ≤ sumI (l.map g)
  | [], _ => Int.le_refl 0
  | a :: l, h => by
    have h1 := h a List.mem_cons_self
    have h2 := sumI_le l (fun x hx => h x (List.mem_cons_of_mem _ hx))
    simp only [List.map_cons, sumI]; omega
theorem cntOp_21 {l ks : List Int} {n a b c : Int} (hk : ks = [a, b, c]) (h : cntOp l ks 21 n ≤ 10000) : cntOp l ks 21 n = 1 + a + mxI b c := by
  subst hk
  unfold cntOp at h ⊢
  rw [if_pos ⟨rfl, rfl⟩] at h ⊢
  exact capM_le h
theorem cntOp_22 {l ks : List Int} {n : Int} (hl : ∀ x ∈ l, CapI x) (hk : ∀ k ∈ ks, CapI k) (hn : 0 ≤ n ∧ n < l.length) (h : cntOp l ks 22 n ≤ 10000) : cntOp l ks 22 n = 1 + sumI ks + l.getD n.toNat 0 ∧ 1 ≤ l.getD n.toNat 0 := by
  unfold cntOp at h ⊢
  rw [if_neg (by omega), if_pos ⟨rfl, hn⟩] at h ⊢
  have h1 := capM_le h
  have hlt : n.toNat < l.length := by omega
  have hx : CapI (l.getD n.toNat 0) := by
    rw [List.getD_eq_getElem?_getD, List.getElem?_eq_getElem hlt, Option.getD_some]
    exact hl _ (List.getElem_mem hlt)
  unfold CapI at hx
  have h2 := cfold_sum ks 1 ⟨by omega, by omega⟩ hk (by omega)
  omega
theorem cntOp_else {l ks : List Int} {op n : Int} (hk : ∀ k ∈ ks, CapI k) (h21 : op ≠ 21) (h22 : op ≠ 22) (h : cntOp l ks op n ≤ 10000) : cntOp l ks op n = 1 + sumI ks := by
  unfold cntOp at h ⊢
  rw [if_neg (by omega), if_neg (by omega)] at h ⊢
  exact cfold_sum ks 1 ⟨by omega, by omega⟩ hk h
theorem cnt_ext {fs : List Fn} {cols params : List Int} {l l' : List Int} (hl : fs.length ≤ l.length) (hl' : fs.length ≤ l'.length) (hx : ∀ n : Nat, n < fs.length → l[n]? = l'[n]?) : ∀ (e : E) (t : Int), ty fs cols params e = some t → cnt l e = cnt l' e := by
  apply E.ind (p := fun e => ∀ t, ty fs cols params e = some t → cnt l e = cnt l' e)
  intro e ih t ht
  obtain ⟨s1, s2, s3⟩ := ty_shape ht
  rw [cnt_eq, cnt_eq, cntL_map, cntL_map]
  have hm : e.args.map (cnt l) = e.args.map (cnt l') := List.map_congr_left fun a ha => by obtain ⟨u, hu⟩ := s1 a ha; exact ih a ha u hu
  rw [hm]
  by_cases h22 : e.op = 22
  · obtain ⟨h0, h1⟩ := s3 h22
    unfold cntOp
    rw [h22, if_neg (by omega), if_pos ⟨rfl, h0, by omega⟩, if_neg (by omega), if_pos ⟨rfl, h0, by omega⟩, List.getD_eq_getElem?_getD, List.getD_eq_getElem?_getD, hx _ (by omega)]
  · unfold cntOp
    by_cases h21 : e.op = 21 ∧ (e.args.map (cnt l')).length = 3
    · rw [if_pos h21, if_pos h21]
    · rw [if_neg h21, if_neg h21, if_neg (by omega), if_neg (by omega)]
theorem bodiesL_take : ∀ (fs : List Fn) (l : List Int), (bodiesL l fs).take l.length = l
  | [], l => List.take_length
  | f :: fs, l => by
    have h := bodiesL_take fs (l ++ [cnt l f.body])
    have h2 := congrArg (List.take l.length) h
    rw [List.take_take, List.length_append, List.take_left, Nat.min_eq_left (Nat.le_add_right _ _)] at h2
    exact h2
theorem bodiesL_get : ∀ (fs : List Fn) (l : List Int) (k : Nat) (f : Fn), fs[k]? = some f → (bodiesL l fs)[l.length + k]? = some (cnt ((bodiesL l fs).take (l.length + k)) f.body)
  | [], l, k, f, h => by simp at h
  | g :: fs, l, 0, f, h => by
    simp only [List.getElem?_cons_zero, Option.some.injEq] at h
    subst h
    have h1 := bodiesL_take fs (l ++ [cnt l g.body])
    have h2 := bodiesL_take (g :: fs) l
    rw [Nat.add_zero, h2]
    simp only [bodiesL]
    have h3 : ((bodiesL (l ++ [cnt l g.body]) fs).take (l ++ [cnt l g.body]).length)[l.length]? = some (cnt l g.body) := by rw [h1]; simp
    rw [List.getElem?_take] at h3
    split at h3
    · exact h3
    · cases h3
  | g :: fs, l, k + 1, f, h => by
    simp only [List.getElem?_cons_succ] at h
    have h1 := bodiesL_get fs (l ++ [cnt l g.body]) k f h
    have h2 : (l ++ [cnt l g.body]).length + k = l.length + (k + 1) := by simp; omega
    rw [h2] at h1
    exact h1
/-- What is shown of an expression with a type, in the answer of the document. -/
def RnGood (fs : List Fn) (time : Int) (d : Nat) (row ps : List V) (e : E) : Prop :=
  RR 16 [slF fs, e.av, I time, slV row, slV ps] [] = some (cv (evD fs time d row ps e) (nD fs time d row ps e), []) ∧ 1 ≤ nD fs time d row ps e ∧ nD fs time d row ps e ≤ cnt (bodiesL [] fs) e
theorem fe_ra {e : E} {a b : V} {t : Int} {cl : Int → List V → V} {time : Int} {row ps : List V} (ha : OkV t a) (hb : OkV t b) (h : 8 ≤ e.op ∧ e.op ≤ 19) : RaGoal e [a, b] (evOp cl time row ps e.op e.n e.s [a, b]) := by
  have : e.op = 8 ∨ e.op = 9 ∨ e.op = 10 ∨ e.op = 11 ∨ e.op = 12 ∨ e.op = 13 ∨ e.op = 14 ∨ e.op = 15 ∨ e.op = 16 ∨ e.op = 17 ∨ e.op = 18 ∨ e.op = 19 := by omega
  rcases this with hk | hk | hk | hk | hk | hk | hk | hk | hk | hk | hk | hk <;> rw [hk]
  · exact ra_8 hk
  · exact ra_9 hk
  · exact ra_10 hk
  · exact ra_11 hk
  · exact ra_12 hk
  · exact ra_13 hk
  · exact ra_14 hk
  · exact ra_15 ha hb hk
  · exact ra_16 ha hb hk
  · exact ra_17 hk
  · exact ra_18 hk
  · exact ra_19 hk (by have := ha.size; omega) (by have := hb.size; omega)
end Go.Proofs.Ytjbmdfdgeioecaa.X
