import Derived.Test.YtkaheioacolemaaXTx0
import Derived.Shelf.RegionOpenPlain
import Derived.Lib.SliceRun
namespace Go.Proofs.Ytkaheioacolemaa.XT
open Go.RowKit Go.Proofs.YtkaheioacolemaaW.PrintWords Go.Proofs.YtkaheioacolemaaW.PrintLast Go.Proofs.YtkaheioacolemaaW.PrintMore
attribute [local go_sem] max2_int min2_int max_two min_two max_three min_three max_four min_four
set_option linter.unusedVariables false
set_option linter.unusedSimpArgs false

/-- How many segments begin at a time or before, where the beginnings ascend. -/
def timeline_behind.f (l0 : List S34) (a1 : Int) : Option Int :=
  if List.Pairwise (fun a b : S34 => a.f0 ≤ b.f0) l0 ∧ l0.length < 4611686018427387904 then some ((l0.countP (fun s => decide (s.f0 ≤ a1)) : Nat) : Int) else none

set_option maxHeartbeats 2000000 in
theorem behind_closure (bl bt : Nat) (A : Option Addr) (c : Nat) (l : List S34) (t : Int) (i : Nat) (W : World) (hi : i < l.length)
    (hl : W.cell? ⟨bl, 0, none⟩ = some (.slice A l.length c)) (ht : W.cell? ⟨bt, 0, none⟩ = some (.int .i64 t)) (hr : Kd.C k34 W A l.length l) :
    Calls Try.prog 36 #[.int .i64 i, .pointer (some ⟨bl, 0, none⟩), .pointer (some ⟨bt, 0, none⟩)] W fun e w' => e = .returned (.bool (decide (t < (rd_T34 l i).f0))) ∧ ∃ q, w' = W.drewN q := by
  have hu34 := Try.underlying34
  have p0 : 0 ≤ (i : Int) := by omega
  have q0 : (i : Int) < (l.length : Int) := by omega
  obtain ⟨ad, e, h0, h1⟩ := at_T34 hr (i : Int) p0 q0
  cases e
  simp only [Int.toNat_natCast] at h0 h1
  clear hr
  go_enter Try.func36, Try.ntmps36
  go_wp2
  repeat (go_quiet (fail); try go_wp2)
  go_ret
  exact ⟨rfl, nq, rfl⟩

set_option maxHeartbeats 4000000 in
set_option maxRecDepth 1000000 in
theorem search_any (g : Nat) (cb : Array Value) (n : Nat) (p : Nat → Bool) (w : World) (eg : ∀ args w, (callFunc g args).run Try.prog w = .ok (.enter g args) w) (hsz : n < 4611686018427387904)
    (hf : ∀ (m : Nat) (i : Nat), i < n → Calls Try.prog g (#[.int .i64 i] ++ cb) (w.drewN m) fun e w' => e = .returned (.bool (p i)) ∧ ∃ q, w' = (w.drewN m).drewN q)
    (hmono : ∀ a b, a ≤ b → b < n → p a = true → p b = true) (cnt : Nat) (hc : ∀ k, k ≤ n → (∀ t, t < k → p t = false) → (∀ t, k ≤ t → t < n → p t = true) → k = cnt) :
    Calls Try.prog 35 #[.int .i64 n, .func (.func g) #[] cb] w fun e w' => e = .returned (.int .i64 cnt) ∧ ∃ q, w' = w.drewN q := by
  have HF := Aside0.mk hf
  have M := Aside0.mk hmono
  have CN := Aside0.mk hc
  clear hf hmono hc
  go_enter Try.func35, Try.ntmps35
  go_wp2
  go_loopg [5, 6] n (fun kx s5 s6 wr => ∃ (lo hi q : Nat), s5 = .int .i64 lo ∧ s6 = .int .i64 hi ∧ lo ≤ hi ∧ hi ≤ n ∧ hi - lo ≤ kx ∧ wr = w.drewN q ∧
    Aside0 ((∀ t, t < lo → p t = false) ∧ (∀ t, hi ≤ t → t < n → p t = true)))
  case atStart => exact ⟨0, n, 0, rfl, rfl, Nat.zero_le _, Nat.le_refl _, by omega, rfl, ⟨⟨fun t ht => absurd ht (Nat.not_lt_zero _), fun t h1 h2 => by omega⟩⟩⟩
  case round =>
    obtain ⟨lo, hi, q, rfl, rfl, hlh, hin, hg, rfl, I⟩ := hrel
    by_cases hlt : lo < hi
    · have hc := HF.out q ((lo + hi) / 2) (by omega)
      rw [show (((lo + hi) / 2 : Nat) : Int) = ((lo : Int) + (hi : Int)) / 2 by omega] at hc
      cases hp : p ((lo + hi) / 2) <;> rw [hp] at hc
      · have HP := Aside0.mk hp
        clear hp
        go_wp2_with (go_at_fn g; refine hc.mono ?_; rintro e w' ⟨rfl, nq, rfl⟩)
        go_roundg (hi - ((lo + hi) / 2 + 1))
        case measure => omega
        case rel =>
          have I2 := Aside0.mk (show (∀ t, t < (lo + hi) / 2 + 1 → p t = false) ∧ (∀ t, hi ≤ t → t < n → p t = true) from ⟨fun t ht => (by
            cases h : p t with
            | false => rfl
            | true => have := M.out t ((lo + hi) / 2) (by omega) (by omega) h; rw [HP.out] at this; cases this), I.out.2⟩)
          exact ⟨(lo + hi) / 2 + 1, hi, q + nq, by rw [show ((lo : Int) + (hi : Int)) / 2 + 1 = (((lo + hi) / 2 + 1 : Nat) : Int) by omega], rfl, by omega, hin, Nat.le_refl _, rfl, I2⟩
      · have HP := Aside0.mk hp
        clear hp
        go_wp2_with (go_at_fn g; refine hc.mono ?_; rintro e w' ⟨rfl, nq, rfl⟩)
        go_roundg ((lo + hi) / 2 - lo)
        case measure => omega
        case rel =>
          have I2 := Aside0.mk (show (∀ t, t < lo → p t = false) ∧ (∀ t, (lo + hi) / 2 ≤ t → t < n → p t = true) from ⟨I.out.1, fun t ht htn => M.out ((lo + hi) / 2) t ht htn HP.out⟩)
          exact ⟨lo, (lo + hi) / 2, q + nq, rfl, by rw [show ((lo : Int) + (hi : Int)) / 2 = (((lo + hi) / 2 : Nat) : Int) by omega], by omega, by omega, Nat.le_refl _, rfl, I2⟩
    · obtain rfl : hi = lo := by omega
      obtain rfl := CN.out hi hin I.out.1 I.out.2
      go_wp2
      go_ret
      exact ⟨rfl, q, rfl⟩

theorem sorted_count (l : List S34) (t : Int) (hp : List.Pairwise (fun a b : S34 => a.f0 ≤ b.f0) l) (k : Nat) (hk : k ≤ l.length)
    (h1 : ∀ i, i < k → decide (t < (rd_T34 l (i : Int)).f0) = false) (h2 : ∀ i, k ≤ i → i < l.length → decide (t < (rd_T34 l (i : Int)).f0) = true) : k = l.countP (fun s => decide (s.f0 ≤ t)) := by
  have e : l = l.take k ++ l.drop k := (List.take_append_drop k l).symm
  rw [e, List.countP_append]
  have a1 : (l.take k).countP (fun s => decide (s.f0 ≤ t)) = (l.take k).length := by
    rw [List.countP_eq_length]
    intro s hs
    obtain ⟨i, hi, rfl⟩ := List.mem_iff_getElem.1 hs
    have hi2 : i < k := by rw [List.length_take] at hi; omega
    have h := h1 i hi2
    have hg : rd_T34 l (i : Int) = (l.take k)[i] := by
      unfold rd_T34
      rw [Int.toNat_natCast, List.getD_eq_getElem?_getD, List.getElem?_eq_getElem (by omega), Option.getD_some, List.getElem_take]
    rw [hg] at h
    simp at h ⊢
    exact h
  have a2 : (l.drop k).countP (fun s => decide (s.f0 ≤ t)) = 0 := by
    rw [List.countP_eq_zero]
    intro s hs
    obtain ⟨i, hi, rfl⟩ := List.mem_iff_getElem.1 hs
    have hi2 : k + i < l.length := by rw [List.length_drop] at hi; omega
    have h := h2 (k + i) (by omega) hi2
    have hg : rd_T34 l ((k + i : Nat) : Int) = (l.drop k)[i] := by
      unfold rd_T34
      rw [Int.toNat_natCast, List.getD_eq_getElem?_getD, List.getElem?_eq_getElem (by omega), Option.getD_some, List.getElem_drop]
    rw [hg] at h
    simp at h ⊢
    omega
  rw [a1, a2, List.length_take]
  omega

set_option maxHeartbeats 4000000 in
theorem timeline_behind.calls (A0 : Option Addr) (c0 : Nat) (l0 : List S34) (a1 : Int) (r : Int) (w : World) (hr0 : Kd.C k34 w A0 l0.length l0) (hc0 : l0.length ≤ c0) (h : timeline_behind.f l0 a1 = some r) :
    Calls Try.prog 29 #[.slice A0 l0.length c0, .int .i64 a1] w fun e w' => e = .returned (.int .i64 r) ∧ Below w.heap.size w w' := by
  unfold timeline_behind.f at h
  split at h
  · rename_i hp
    obtain rfl := Option.some.inj h
    clear h
    obtain ⟨hp, hsz⟩ := hp
    obtain ⟨W0, hW0⟩ : ∃ W0, W0 = (w.alloc (.cells #[.slice A0 l0.length c0] 24)).alloc (.cells #[.int .i64 a1] 3) := ⟨_, rfl⟩
    have hB0 : Below w.heap.size w W0 := by rw [hW0]; exact ((Below.refl _ w).alloc (Nat.le_refl _) _).alloc (by simp) _
    have hR : Kd.C k34 W0 A0 l0.length l0 := Kd.C_below hr0 hB0
    have ca : W0.cell? ⟨w.heap.size, 0, none⟩ = some (.slice A0 l0.length c0) := by rw [hW0]; simp [World.cell?_alloc_at]
    have cx : W0.cell? ⟨w.heap.size + 1, 0, none⟩ = some (.int .i64 a1) := by rw [hW0]; simp [World.cell?_alloc_at]
    have hS := search_any 36 #[.pointer (some ⟨w.heap.size, 0, none⟩), .pointer (some ⟨w.heap.size + 1, 0, none⟩)] l0.length (fun i => decide (a1 < (rd_T34 l0 (i : Int)).f0)) W0
      (fun args w => by kernel_rfl) hsz
      (fun m i hi => by
        have hcells : ∀ p v, W0.cell? p = some v → (W0.drewN m).cell? p = some v := fun p v hv => hv
        exact (behind_closure w.heap.size (w.heap.size + 1) A0 c0 l0 a1 i (W0.drewN m) hi (hcells _ _ ca) (hcells _ _ cx) (Kd.C_drewN hR m)).mono fun _ _ hh => hh)
      (fun a b hab hb ha => by
        rw [decide_eq_true_iff] at ha ⊢
        rcases Nat.lt_or_ge a b with hlt | hge
        · have := List.pairwise_iff_getElem.1 hp a b (by omega) hb hlt
          have e1 : rd_T34 l0 (a : Int) = l0[a] := by unfold rd_T34; rw [Int.toNat_natCast, List.getD_eq_getElem?_getD, List.getElem?_eq_getElem (by omega), Option.getD_some]
          have e2 : rd_T34 l0 (b : Int) = l0[b] := by unfold rd_T34; rw [Int.toNat_natCast, List.getD_eq_getElem?_getD, List.getElem?_eq_getElem (by omega), Option.getD_some]
          rw [e1] at ha
          rw [e2]
          omega
        · obtain rfl : a = b := by omega
          exact ha)
      (l0.countP (fun s => decide (s.f0 ≤ a1))) (fun k hk h1 h2 => sorted_count l0 a1 hp k hk h1 h2)
    have HS := Aside0.mk hS
    have HB := Aside0.mk hB0
    clear hS hp hR ca cx hB0 hr0
    generalize l0.countP (fun s => decide (s.f0 ≤ a1)) = r at HS ⊢
    go_enter Try.func29, Try.ntmps29
    go_wp2_with (go_at_call 35; rw [← hW0]; refine HS.out.mono ?_; rintro e w' ⟨rfl, nq, rfl⟩)
    go_ret
    refine ⟨rfl, ?_⟩
    rw [← hW0]
    exact pw_below_drewN HB.out nq
  · cases h

/-- A row that is read, of elements that lead to no other row: its cells, one behind the other. -/
theorem row_cells {α : Type} {d : Kd α} (hp : ∀ w x cs, d.K w x cs → ∀ w2 base ok, d.M w2 base ok x cs) {w : World} {ad : Addr} (xs : List α) (n : Nat)
    (h : ∀ j p, xs[j]? = some p → ∃ c, c.length = d.sz ∧ d.K w p c ∧ ∀ i u, c[i]? = some u → w.cell? (ad.add ((n + j) * d.sz + i)) = some u) :
    ∃ news, (∀ w2 base ok, Reps (d.M w2 base ok) d.sz xs news) ∧ (∀ u ∈ news, u.oneCell' = true) ∧ ∀ j u, news[j]? = some u → w.cell? (ad.add (n * d.sz + j)) = some u := by
  induction xs generalizing n with
  | nil => exact ⟨[], fun _ _ _ => Reps.none _ _, fun u hu => (by cases hu), fun j u hu => (by cases hu)⟩
  | cons x xs ih =>
    obtain ⟨c, hcl, hK, hcc⟩ := h 0 x rfl
    obtain ⟨news, h1, h2, h3⟩ := ih (n + 1) (fun j p hj => by
      obtain ⟨c, hcl, hK, hcc⟩ := h (j + 1) p (by simpa using hj)
      exact ⟨c, hcl, hK, fun i u hu => by rw [show n + 1 + j = n + (j + 1) by omega]; exact hcc i u hu⟩)
    refine ⟨c ++ news, fun w2 base ok => ⟨?_, ?_⟩, ?_, ?_⟩
    · rw [List.length_append, hcl, (h1 w2 base ok).1, List.length_cons, Nat.add_mul, Nat.one_mul, Nat.add_comm]
    · intro j p hj
      cases j with
      | zero =>
        simp only [List.getElem?_cons_zero, Option.some.injEq] at hj
        subst hj
        rw [Nat.zero_mul, List.drop_zero, ← hcl, List.take_left]
        exact hp _ _ _ hK _ _ _
      | succ j =>
        have := (h1 w2 base ok).2 j p (by simpa using hj)
        rw [show (j + 1) * d.sz = c.length + j * d.sz by rw [hcl, Nat.add_mul, Nat.one_mul, Nat.add_comm], ← List.drop_drop, List.drop_left]
        exact this
    · intro u hu
      rcases List.mem_append.1 hu with hu | hu
      · exact d.K_one hK u hu
      · exact h2 u hu
    · intro j u hj
      rcases Nat.lt_or_ge j c.length with hlt | hge
      · rw [List.getElem?_append_left hlt] at hj
        have := hcc j u hj
        rwa [Nat.add_zero] at this
      · rw [List.getElem?_append_right hge] at hj
        have := h3 _ _ hj
        rw [show n * d.sz + j = (n + 1) * d.sz + (j - c.length) by rw [Nat.add_mul, Nat.one_mul, ← hcl]; omega]
        exact this

def api_Seg_28.f (l0 : List S34) : Option (List S34) := if l0.length < 8796093022208 then some l0 else none
set_option maxHeartbeats 2000000 in
theorem api_Seg_28.calls (A0 : Option Addr) (c0 : Nat) (l0 : List S34) (r : List S34) (w : World) (hr0 : Kd.C k34 w A0 l0.length l0) (hc0 : l0.length ≤ c0) (h : api_Seg_28.f l0 = some r) :
    Calls Try.prog 28 #[.slice A0 l0.length c0] w fun e w' => ∃ v0_ : Value, e = .returned (v0_) ∧ Kd.R k34 34 w' w.heap.size (fun _ => True) v0_ r ∧ Below w.heap.size w w' := by
  unfold api_Seg_28.f at h
  split at h
  · rename_i hlen
    obtain rfl := Option.some.inj h
    clear h
    have q24 : ∀ (w : World) (a : Option Addr) (n c n' c' : Nat), (binOp .eql 24 (.slice a n c) (.slice none n' c')).run Try.prog w = .ok (.bool a.isNone) w := fun w a n c n' c' => Lib.run_eql_slice_nil w _ _ a n c n' c' Try.underlying24
    obtain ⟨i0, hi, hzz⟩ := Option.map_eq_some_iff.1 info34
    simp only [Prod.mk.injEq] at hzz
    obtain ⟨hz0, hz1, hz2⟩ := hzz
    cases A0 with
    | none =>
      have hl0 : l0 = [] := by
        cases l0 with
        | nil => rfl
        | cons x xs => obtain ⟨ad, e, _⟩ := hr0.2.2 (by simp); cases e
      subst hl0
      clear hr0
      go_enter Try.func28, Try.ntmps28
      go_wp2
      go_ret
      exact ⟨_, rfl, Kd.R_nil _ _ _ _ _, Below.refl _ _⟩
    | some ad =>
      obtain ⟨news, g1, g2, g3⟩ : ∃ news, (∀ w2 base ok, Reps (k34.M w2 base ok) k34.sz l0 news) ∧ (∀ u ∈ news, u.oneCell' = true) ∧ ∀ j u, news[j]? = some u → w.cell? (ad.add (0 * k34.sz + j)) = some u := by
        rcases Nat.eq_zero_or_pos l0.length with h0 | h0
        · obtain rfl := List.eq_nil_of_length_eq_zero h0
          exact ⟨[], fun _ _ _ => Reps.none _ _, fun u hu => (by cases hu), fun j u hu => (by cases hu)⟩
        · obtain ⟨ad', e, hc⟩ := hr0.2.2 h0
          cases e
          exact row_cells (fun w x cs h w2 base ok => by rw [k34_open h]; exact k34_mkM w2 base ok x) l0 0 (fun j p hj => by rw [Nat.zero_add]; exact hc j p hj)
      have G1 := Aside0.mk g1
      have G2 := Aside0.mk g2
      have G3 := Aside0.mk g3
      have HL : news.length = l0.length * 2 := (g1 w 0 (fun _ => True)).1
      clear g1 g2 g3 hr0
      go_enter Try.func28, Try.ntmps28
      go_wp2_with (at_builtin; refine wpList_append_own _ rfl _ _ 24 rfl w.heap.size 34 i0 _ 2 16 Try.underlying24 hi hz0 hz1 hz2 rfl (by decide) _ _ _ rfl (World.ownsRow_made w #[] 0 (Nat.le_refl _) (Nat.zero_le _) (by simp)) ad l0.length c0 news rfl ?qc1 ?qc2 ?qc3 ?qc4 ?qc5 ?qc6 ?_)
      case qc1 => exact HL
      case qc2 =>
        intro j u hj
        have := G3.out j u hj
        rw [Nat.zero_mul, Nat.zero_add] at this
        exact Lib.cell?_alloc_some _ this
      case qc3 => exact G2.out
      case qc4 => simp only [maxLen]; omega
      case qc5 => omega
      case qc6 => simp
      intro v' w1 hown hgrow hnil
      go_wp2
      go_ret
      refine ⟨v', rfl, ⟨fun _ _ => trivial, news, (show w1.ownsRow w.heap.size 34 2 v' l0.length news by simpa using hown), G1.out _ _ _⟩, ?_⟩
      exact ((Below.refl _ w).alloc (Nat.le_refl _) _).grown hgrow (by simp) (by intro k hk; simp [Value.ownBlock] at hk; omega)
  · cases h
theorem info55x : (Try.prog.info? 55).map (fun i => (i.zero, i.size, i.bytes)) = some (some (.agg #[(.int .i64 0), (.int .i64 0), (.string ⟨#[]⟩)]), 3, 32) := by kernel_rfl
def api_Value.f (l0 : List S55) : Option (List S55) := if l0.length < 4398046511104 then some l0 else none
set_option maxHeartbeats 2000000 in
theorem api_Value.calls (A0 : Option Addr) (c0 : Nat) (l0 : List S55) (r : List S55) (w : World) (hr0 : Kd.C k55 w A0 l0.length l0) (hc0 : l0.length ≤ c0) (h : api_Value.f l0 = some r) :
    Calls Try.prog 34 #[.slice A0 l0.length c0] w fun e w' => ∃ v0_ : Value, e = .returned (v0_) ∧ Kd.R k55 55 w' w.heap.size (fun _ => True) v0_ r ∧ Below w.heap.size w w' := by
  unfold api_Value.f at h
  split at h
  · rename_i hlen
    obtain rfl := Option.some.inj h
    clear h
    have q24 : ∀ (w : World) (a : Option Addr) (n c n' c' : Nat), (binOp .eql 47 (.slice a n c) (.slice none n' c')).run Try.prog w = .ok (.bool a.isNone) w := fun w a n c n' c' => Lib.run_eql_slice_nil w _ _ a n c n' c' Try.underlying47
    obtain ⟨i0, hi, hzz⟩ := Option.map_eq_some_iff.1 info55x
    simp only [Prod.mk.injEq] at hzz
    obtain ⟨hz0, hz1, hz2⟩ := hzz
    cases A0 with
    | none =>
      have hl0 : l0 = [] := by
        cases l0 with
        | nil => rfl
        | cons x xs => obtain ⟨ad, e, _⟩ := hr0.2.2 (by simp); cases e
      subst hl0
      clear hr0
      go_enter Try.func34, Try.ntmps34
      go_wp2
      go_ret
      exact ⟨_, rfl, Kd.R_nil _ _ _ _ _, Below.refl _ _⟩
    | some ad =>
      obtain ⟨news, g1, g2, g3⟩ : ∃ news, (∀ w2 base ok, Reps (k55.M w2 base ok) k55.sz l0 news) ∧ (∀ u ∈ news, u.oneCell' = true) ∧ ∀ j u, news[j]? = some u → w.cell? (ad.add (0 * k55.sz + j)) = some u := by
        rcases Nat.eq_zero_or_pos l0.length with h0 | h0
        · obtain rfl := List.eq_nil_of_length_eq_zero h0
          exact ⟨[], fun _ _ _ => Reps.none _ _, fun u hu => (by cases hu), fun j u hu => (by cases hu)⟩
        · obtain ⟨ad', e, hc⟩ := hr0.2.2 h0
          cases e
          exact row_cells (fun w x cs h w2 base ok => by rw [k55_open h]; exact k55_mkM w2 base ok x) l0 0 (fun j p hj => by rw [Nat.zero_add]; exact hc j p hj)
      have G1 := Aside0.mk g1
      have G2 := Aside0.mk g2
      have G3 := Aside0.mk g3
      have HL : news.length = l0.length * 3 := (g1 w 0 (fun _ => True)).1
      clear g1 g2 g3 hr0
      go_enter Try.func34, Try.ntmps34
      go_wp2_with (at_builtin; refine wpList_append_own _ rfl _ _ 47 rfl w.heap.size 55 i0 _ 3 32 Try.underlying47 hi hz0 hz1 hz2 rfl (by decide) _ _ _ rfl (World.ownsRow_made w #[] 0 (Nat.le_refl _) (Nat.zero_le _) (by simp)) ad l0.length c0 news rfl ?qc1 ?qc2 ?qc3 ?qc4 ?qc5 ?qc6 ?_)
      case qc1 => exact HL
      case qc2 =>
        intro j u hj
        have := G3.out j u hj
        rw [Nat.zero_mul, Nat.zero_add] at this
        exact Lib.cell?_alloc_some _ this
      case qc3 => exact G2.out
      case qc4 => simp only [maxLen]; omega
      case qc5 => omega
      case qc6 => simp
      intro v' w1 hown hgrow hnil
      go_wp2
      go_ret
      refine ⟨v', rfl, ⟨fun _ _ => trivial, news, (show w1.ownsRow w.heap.size 55 3 v' l0.length news by simpa using hown), G1.out _ _ _⟩, ?_⟩
      exact ((Below.refl _ w).alloc (Nat.le_refl _) _).grown hgrow (by simp) (by intro k hk; simp [Value.ownBlock] at hk; omega)
  · cases h
end Go.Proofs.Ytkaheioacolemaa.XT
