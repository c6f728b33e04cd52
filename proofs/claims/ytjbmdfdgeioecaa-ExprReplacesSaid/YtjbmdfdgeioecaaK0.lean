/- slices.Sorted(maps.Keys(m)) at a map of the callers' frames: the keys, ascending. -/
import Derived.Test.YtjbmdfdgeioecaaAmD
import Derived.Test.YtjbmdfdgeioecaaChecked
import Derived.Test.YtjbmdfdgeioecaaIter
import Derived.Shelf.SlIterI.Sorted
import Derived.WideShapes
namespace Go.Proofs.Ytjbmdfdgeioecaa.F
open Go.Proofs.Ytjbmdfdgeioecaa.Am Go.RowKit Go.Maps Go.Sort Go.Shelf
set_option linter.unusedVariables false
set_option linter.unusedSimpArgs false
noncomputable abbrev PK : Program := Try.prog
theorem sortsA (m : Nat) : AnyZI.SortsIn PK Try.sortedA_ren Fence.wide m :=
  ⟨fun blk off cap ss W hH hblk hsz => callsIn_wide.2 (AnyM.slices_Sort_int Try.sortA blk off cap ss W hH hblk hsz),
   fun p cap W => callsIn_wide.2 (AnyM.slices_Sort_int_none Try.sortA p cap W)⟩
theorem keys_calls (mb : Option Nat) (w : World) : Calls PK 57 #[.map mb] w fun e w' => e = .returned (.func (.func 89) #[] #[.pointer (some ⟨w.heap.size, 0, none⟩)]) ∧ ∃ t, w' = pushed w (.cells #[.map mb] t (0, 0)) :=
  (callsIn_wide (n := 6)).1 ((AnyZI.keys_in Try.keysA Fence.wide 6 trivial rfl mb w).mono fun e w' ⟨h1, h2⟩ => ⟨h1, _, h2⟩)
theorem sorted_calls {H : Type} (w : World) (Bm b nn : Nat) (D0 : DataW H) {R : Value → Option (DataW H × List MemPlace)} (hBm : Bm < w.heap.size) (hm : w.cell? ⟨Bm, 0, none⟩ = some (.map (some b))) (hown : w.ownsMap PK 3 R b nn D0) (hmax : Maps.size D0 ≤ maxLen) (hbytes : Maps.size D0 * 8 ≤ 140737488355328) :
    Calls PK 56 #[.func (.func 89) #[] #[.pointer (some ⟨Bm, 0, none⟩)]] w fun e w' => ∃ (v : Value) (ss : List Int), e = .returned v ∧ ss.Perm (intKeys D0) ∧
      w'.ownsRow w.heap.size 3 1 v ss.length ((ss.mergeSort (fun x y => decide (x ≤ y))).map encZ) ∧ Below w.heap.size w w' := by
  refine (callsIn_wide (n := 6)).1 ?_
  have hseq : SeqGives Fence.wide 3 PK 89 #[.pointer (some ⟨Bm, 0, none⟩)] encZ (fun ss => ss.Perm (intKeys D0)) (Maps.size D0) w :=
    AnyZI.keys_gives (ρ := Try.keysA_ren) { Try.keysA with } Fence.wide _ trivial rfl (by omega) Bm b nn D0 _ hBm hm hown
  have cS := AnyZI.sorted_in Try.sortedA Fence.wide 6 trivial trivial trivial trivial rfl (by omega) (sortsA _) (enters_of Try.func88 (by kernel_rfl) rfl) 89 #[.pointer (some ⟨Bm, 0, none⟩)] trivial (enters_of Try.func89 (by kernel_rfl) rfl) _ _ hmax hbytes _ hseq
  exact cS.mono fun e w' ⟨v, ss, h1, h2, h3, _, h4⟩ => ⟨v, ss, h1, h2, h3, h4⟩

/-- What stands in a world that has but new blocks more; a new block's cells come under protection. -/
theorem RM.below {G : Gh} {ow : Owner} {ms : List Mem} {w w' : World} (h : RM G ow ms w) (hb : Below w.heap.size w w') {gb : Nat} (hge : w.heap.size ≤ gb) {us : List Value} (hu : ∀ (j : Nat) (u : Value), us[j]? = some u → w'.cell? ⟨gb, j, none⟩ = some u) :
    RM (G.more (rowProt gb us.toArray)) ow ms w' ∧ Fr G (G.more (rowProt gb us.toArray)) ow ow w w' := by
  have hle := G.more_le (rowProt gb us.toArray)
  have hold : ∀ b o, b < w.heap.size → (G.more (rowProt gb us.toArray)).M b o = G.M b o := fun b o hb => by
    have : b ≠ gb := by omega
    simp only [Gh.more, rowProt, this, if_false]
    cases G.M b o <;> rfl
  refine ⟨⟨fun b o v hm => ?_, fun d s cs hv hnr => ?_, fun d s n z ht => ?_, h.φsome, h.τsome, fun b x hx => Nat.lt_of_lt_of_le (h.owlt b x hx) hb.size, fun d s ver z cs hv => (h.row d s ver z cs hv).keep hle rfl fun b hlt _ => ⟨hb.block b hlt, rfl, fun o => hold b o hlt⟩, h.ρsome, h.glob.mono hle.M⟩, ⟨hb.size, fun b hlt _ => hb.block b hlt, fun b hlt _ o => hold b o hlt, fun _ _ h => h, hb.os, hb.tape, hb.output⟩⟩
  · simp only [Gh.more] at hm
    cases hq : G.M b o with
    | some u =>
      rw [hq] at hm
      simp only [Option.some.injEq] at hm
      subst hm
      rw [cell?_of_heap (w := w) (hb.block b (prot_lt h hq))]
      exact h.prot b o _ hq
    | none =>
      rw [hq] at hm
      simp only [rowProt] at hm
      split at hm
      · rename_i he
        subst he
        exact hu o v (by simpa using hm)
      · cases hm
  · obtain ⟨b, ob, h1, h2, h3, h4, h5⟩ := h.var d s cs hv hnr
    have hlt := heap_lt h3
    exact ⟨b, ob, h1, h2, by rw [hb.block b hlt]; exact h3, h4.mono hle, fun o => by rw [hold b o hlt]; exact h5 o⟩
  · obtain ⟨t, h1, h2, h3, h4, h5⟩ := h.tok d s n z ht
    refine ⟨t, h1, h2, h3, h4, fun hlt => ?_⟩
    obtain ⟨b, vs, e, g1, g2, g3, g4, g5⟩ := h5 hlt
    have hl := heap_lt g3
    exact ⟨b, vs, e, g1, g2, by rw [hb.block b hl]; exact g3, g4, fun o ho => by rw [hold b o hl]; exact g5 o ho⟩

def intKs : List PV → Option (List Int)
  | [] => some []
  | .int .i64 n :: l => (intKs l).map (n :: ·)
  | _ => none
def wfI (n : Int) : Bool := decide (-9223372036854775808 ≤ n) && decide (n ≤ 9223372036854775807)
def nodupI : List Int → Bool
  | [] => true
  | x :: l => !l.contains x && nodupI l
theorem nodupI_ok : ∀ {l : List Int}, nodupI l = true → l.Nodup
  | [], _ => List.nodup_nil
  | x :: l, h => by
    simp only [nodupI, Bool.and_eq_true, Bool.not_eq_true'] at h
    refine List.nodup_cons.mpr ⟨fun hm => ?_, nodupI_ok h.2⟩
    have := List.contains_iff_mem.mpr hm
    rw [this] at h
    cases h.1
/-- The keys of a map, sorted: what slices.Sorted(maps.Keys(m)) gives. -/
def sortI (l : List Int) : List Int := l.mergeSort leI
def intsP (l : List Int) : List PV := l.map (PV.int .i64)
def primK (f : FuncId) (args : List AV) (ms : List Mem) : Option (AV × List Mem) :=
  if f = 57 then
    match args with
    | [.mref (some d) s] => some (.func 89 [] [.cptr 0 (.mref (some d) s)], ms)
    | _ => none
  else if f = 56 then
    match args with
    | [.func g [] [.cptr 0 (.mref (some d) s)]] => if g = 89 then
        match entsAt ms d s with
        | some (ks, _) => (intKs ks).bind fun ns => if nodupI ns = true ∧ ns.all wfI = true ∧ ns.length * 8 ≤ 140737488355328 then some (.pv (.slc (intsP (sortI ns))), ms) else none
        | none => none
      else none
    | _ => none
  else none

theorem intKs_get {M : Prot} : ∀ {ks : List PV} {ns : List Int} {es : List MapEntry}, intKs ks = some ns → ks.length = es.length → (∀ (i : Nat) (k : PV) (e : MapEntry), ks[i]? = some k → es[i]? = some e → KR M k e.key) → es.map (·.key) = ns.map encZ
  | [], ns, [], h, _, _ => by simp only [intKs, Option.some.injEq] at h; subst h; rfl
  | [], _, _ :: _, _, h, _ => by simp at h
  | _ :: _, _, [], _, h, _ => by simp at h
  | k :: ks, ns, e :: es, h, hl, hk => by
    have h0 := hk 0 k e (by simp) (by simp)
    cases k with
    | int q n =>
      cases q <;> simp only [intKs, reduceCtorEq] at h
      simp only [Option.map_eq_some_iff] at h
      obtain ⟨ns', h1, rfl⟩ := h
      have h2 : e.key = .int .i64 n := by
        simp only [KR] at h0
        generalize e.key = v at h0
        cases h0
        rfl
      simp only [List.map_cons, h2, intKs_get h1 (by simpa using hl) (fun i k e a b => hk (i + 1) k e (by simpa using a) (by simpa using b))]
    | _ => simp [intKs] at h

theorem wfI_ok {n : Int} (h : wfI n = true) : (Lit.int .i64 n).wf = true := by
  simp only [wfI, Bool.and_eq_true, decide_eq_true_eq] at h
  have h1 : IntKind.i64.max = 9223372036854775807 := IntKind.max_i64
  have h2 : IntKind.i64.min = -9223372036854775808 := by decide
  simp only [Lit.wf, h1, h2, Bool.and_eq_true, decide_eq_true_eq]
  omega

abbrev RU : Value → Option (DataW Unit × List MemPlace) := fun _ => some (.nil, [])
theorem keys_rg : ∀ (l : List MapEntry) (ns : List Int), l.map (·.key) = ns.map encZ → ns.all wfI = true → (l.map (Go.WideElems.rg PK 3 RU)).map (fun p => _root_.Go.intOf p.1) = ns ∧ ∀ x ∈ l, ∃ y, Go.WideElems.rd PK 3 RU x = some y
  | [], [], _, _ => ⟨rfl, by simp⟩
  | [], _ :: _, h, _ => by simp at h
  | _ :: _, [], h, _ => by simp at h
  | x :: l, n :: ns, h, hw => by
    simp only [List.map_cons, List.cons.injEq] at h
    simp only [List.all_cons, Bool.and_eq_true] at hw
    have hk : Go.WideElems.rd PK 3 RU x = some (.int .i64 n, .nil) := by
      simp only [Go.WideElems.rd, h.1, keyOf, Try.underlying3, mapKey, wfI_ok hw.1, and_self, if_true, Option.bind_some, Option.map_some]
    obtain ⟨h1, h2⟩ := keys_rg l ns h.2 hw.2
    refine ⟨?_, fun y hy => ?_⟩
    · rw [List.map_cons, List.map_cons, h1]
      simp only [Go.WideElems.rg, hk, Option.getD_some]
      rfl
    · rcases List.mem_cons.mp hy with rfl | hy
      · exact ⟨_, hk⟩
      · exact h2 y hy
theorem foldr_perm {H : Type} : ∀ l : List (Lit × DataW H), (l.foldr DataW.insert []).Perm l
  | [] => List.Perm.refl _
  | x :: l => (Go.WideShapes.insert_perm x _).trans ((foldr_perm l).cons x)
theorem intsP_cells (l : List Int) : cellsOf (intsP l) = intsP l := by
  induction l with
  | nil => rfl
  | cons n l ih => simp only [intsP, cellsOf, List.map_cons, List.flatMap_cons, PV.cells] at ih ⊢; rw [ih]; rfl
theorem intsP_prs (M : Prot) (l : List Int) : PRs M (intsP l) (l.map encZ) := by
  induction l with
  | nil => exact .nil
  | cons n l ih => exact .cons (.int _ _) ih

theorem primK_ok : CallOK PK primK := by
  intro f args ms r ms' e G ow w vals hr ha hc
  unfold primK at e
  split at e
  · rename_i hf
    subst hf
    split at e
    · rename_i d s
      simp only [Option.some.injEq, Prod.mk.injEq] at e
      obtain ⟨rfl, rfl⟩ := e
      have h := ha ms.length (Nat.le_succ _)
      simp only [ARs, AR, Option.getD_some] at h
      obtain ⟨_, _, rfl, ⟨hd, b, hb, rfl⟩, rfl⟩ := h
      have hdl : d < ms.length := by
        simp only [closeds, AV.closed, Bool.and_true, decide_eq_true_eq] at hc
        exact hc
      refine (keys_calls (some b) w).mono fun ev w' ⟨he, t, hw⟩ => ?_
      subst he
      subst hw
      obtain ⟨r1, r2⟩ := hr.newRow #[.map (some b)] t 1
      refine ⟨_, _, ow, rfl, G.more_le _, r2, r1, rfl, fun d' hd' => ?_, by simp [AV.closed, closeds, hdl]⟩
      simp only [AR, ARs, Option.getD_some]
      refine ⟨#[], _, rfl, rfl, _, [], rfl, ⟨w.heap.size, .map (some b), rfl, ?_, by omega, b, ?_, rfl⟩, rfl⟩
      · simp [Gh.more, hr.fresh 0, rowProt]
      · exact hb
    · cases e
  · split at e
    · rename_i _ hf
      subst hf
      split at e
      · rename_i g d s
        split at e
        · rename_i hg
          subst hg
          split at e
          · rename_i ks xs hes
            simp only [Option.bind_eq_some_iff] at e
            obtain ⟨ns, hns, e⟩ := e
            split at e
            · rename_i hq
              obtain ⟨hnd, hwf, hby⟩ := hq
              simp only [Option.some.injEq, Prod.mk.injEq] at e
              obtain ⟨rfl, rfl⟩ := e
              have h := ha ms.length (Nat.le_succ _)
              simp only [ARs, AR, Option.getD_some] at h
              obtain ⟨_, _, rfl, ⟨us, vs, rfl, h1, h2⟩, rfl⟩ := h
              obtain ⟨_, _, hvs, ⟨Bm, u, rfl, hM, hd, b, hb, rfl⟩, rfl⟩ := h2
              have hus : us = #[] := by apply Array.toList_inj.mp; simpa using h1
              have hvs : vs = #[.pointer (some ⟨Bm, 0, none⟩)] := by apply Array.toList_inj.mp; simpa using hvs
              subst hus
              subst hvs
              have hcell := hr.prot _ _ _ hM
              have hBm := prot_lt hr hM
              obtain ⟨b', ob, k1, k2, k3, k4, k5⟩ := hr.var _ _ _ (entsAt_some hes) rfl
              rw [hb] at k1
              cases k1
              rcases k4 with ⟨_, _, _, hbad⟩ | ⟨ks', xs', es, clock, hcs, rfl, hkl, hkr, hxs, hbn⟩
              · simp only [ARs, AR] at hbad
                obtain ⟨_, _, _, hf, _⟩ := hbad
                exact hf.elim
              simp only [List.cons.injEq, AV.ments.injEq, and_true] at hcs
              obtain ⟨rfl, rfl⟩ := hcs
              have hkeys := intKs_get (es := es.toList) hns (by simpa using hkl) (fun i k e a b => hkr i k e a (by simpa using b))
              obtain ⟨g1, g2⟩ := keys_rg es.toList ns hkeys hwf
              have hsz : es.size = ns.length := by have := congrArg List.length hkeys; simpa using this
              have hown : w.ownsMap PK 3 RU b es.size (.map ((es.toList.map (Go.WideElems.rg PK 3 RU)).foldr DataW.insert [])) :=
                ⟨es, clock, k3, ⟨by unfold maxLen; omega, ⟨hbn.1, hbn.2, by rw [hkeys]; exact List.pairwise_map.2 ((nodupI_ok hnd).imp fun hne e => hne (encZ_inj e))⟩, g2⟩, Nat.le_refl _, rfl⟩
              have hperm := foldr_perm (es.toList.map (Go.WideElems.rg PK 3 RU))
              have hlen : Maps.size (.map ((es.toList.map (Go.WideElems.rg PK 3 RU)).foldr DataW.insert [])) = ns.length := by
                simp only [Maps.size]
                rw [hperm.length_eq, List.length_map, Array.length_toList, hsz]
              have hp2 : (intKeys (.map ((es.toList.map (Go.WideElems.rg PK 3 RU)).foldr DataW.insert []))).Perm ns := by
                have := hperm.map (fun p => _root_.Go.intOf p.1)
                rw [g1] at this
                exact this
              refine (sorted_calls w Bm b es.size _ hBm hcell hown (by rw [hlen]; unfold maxLen; omega) (by rw [hlen]; exact hby)).mono fun ev w' ⟨v, ss, he, hss, ⟨hl, hcase⟩, hbel⟩ => ?_
              subst he
              have hsort : (ss.mergeSort fun x y => decide (x ≤ y)) = sortI ns := mergeSort_of_perm_i (hss.trans hp2)
              rw [hsort] at hcase
              rcases hcase with ⟨rfl, h0⟩ | ⟨gb, cap, cur, rfl, hge, hgb, hn, hcm, hcs, htk⟩
              · obtain ⟨r1, r2⟩ := RM.below hr hbel (Nat.le_refl _) (us := []) (by simp)
                refine ⟨_, _, ow, rfl, G.more_le _, r2, r1, rfl, fun d' _ => ?_, rfl⟩
                have hss0 : sortI ns = [] := by
                  have : ss = [] := List.eq_nil_of_length_eq_zero h0
                  rw [← hsort, this]
                  simp
                simp only [AR, hss0]
                exact .nil none 0
              · have hcell' : ∀ (j : Nat) (u : Value), ((sortI ns).map encZ)[j]? = some u → w'.cell? ⟨gb, j, none⟩ = some u := fun j u hj => by
                  rw [cell_of_block hgb]
                  rw [← htk, List.getElem?_take] at hj
                  split at hj
                  · simpa using hj
                  · cases hj
                obtain ⟨r1, r2⟩ := RM.below hr hbel hge hcell'
                refine ⟨_, _, ow, rfl, G.more_le _, r2, r1, rfl, fun d' _ => ?_, rfl⟩
                simp only [AR]
                have hlen2 : (sortI ns).length = ss.length := by rw [← hsort]; exact List.length_mergeSort _
                have hfree : ∀ o, G.M gb o = none := fun o => by
                  cases hq : G.M gb o with
                  | none => rfl
                  | some v => have := prot_lt hr hq; omega
                have := PR.of_flat (M := (G.more (rowProt gb ((sortI ns).map encZ).toArray)).M) (size := 1) (b := gb) (o := 0) (cap := cap) (es := intsP (sortI ns)) (us := (sortI ns).map encZ)
                  (fun e he => by obtain ⟨n, _, rfl⟩ := List.mem_map.mp he; rfl)
                  (by rw [intsP_cells]; exact intsP_prs _ _)
                  (fun j u hj => by rw [Nat.zero_add]; simp only [Gh.more, hfree, rowProt, if_true]; simpa using hj)
                  (by simp only [intsP, List.length_map, hlen2]; exact hn)
                simpa only [intsP, List.length_map, hlen2] using this
            · cases e
          · cases e
        · cases e
      · cases e
    · cases e
end Go.Proofs.Ytjbmdfdgeioecaa.F
