/- How an argument's memory reads, kind by kind: what the form's reader has read is what the contracts ask. Conditions: none. -/
import Derived.Test.YtkaheioacolemaaWMore
import Derived.ChangeArms
import Derived.DataReads
import Derived.DataElems
namespace Go.Proofs.Ytkaheioacolemaa.B
open Go.RowKit Go.Proofs.YtkaheioacolemaaW.PrintWords

structure Rd {α : Type} (P : Program) (n : Nat) (t : TypeId) (d : Kd α) (G : α → Prop) : Prop where
  sz : P.cellsOf t = d.sz
  rd : ∀ (H : Type) (enc : TypeId × Value → H) (w : World) (base : Nat) (spare : Nat → Bool) (held : Bool) (m : Nat) (cs : List Value) (x : DataW H × List MemPlace), m ≤ n → DataW.trod enc P w base spare held m t cs = some x → ∃ y, d.K w y cs ∧ G y
structure RdF {α : Type} (P : Program) (n : Nat) (fs : List Field) (off : Nat) (d : Kd α) (G : α → Prop) : Prop where
  rd : ∀ (H : Type) (enc : TypeId × Value → H) (w : World) (base : Nat) (spare : Nat → Bool) (held : Bool) (m : Nat) (cs : List Value), m ≤ n → cs.length = off + d.sz →
    (∀ f ∈ fs, ∃ z, DataW.trod enc P w base spare held m f.type ((cs.drop f.offset).take (P.cellsOf f.type)) = some z) → ∃ y, d.K w y (cs.drop off) ∧ G y

variable {P : Program} {n : Nat} {t e : TypeId}
theorem Rd.int {k : IntKind} (h : P.underlying t = some (.int k)) (hc : P.cellsOf t = 1) : Rd P n t (Kd.int k) (fun x => (Lit.int k x).wf = true) :=
  ⟨hc, fun H enc w base spare held m cs x _ hx => by
    obtain ⟨y, rfl, _, hw⟩ := DataW.trod_int h hx
    exact ⟨y, rfl, hw⟩⟩
theorem Rd.bool (h : P.underlying t = some .bool) (hc : P.cellsOf t = 1) : Rd P n t Kd.bool (fun _ => True) :=
  ⟨hc, fun H enc w base spare held m cs x _ hx => by
    obtain ⟨y, rfl, _⟩ := DataW.trod_bool h hx
    exact ⟨y, rfl, trivial⟩⟩
theorem Rd.string (h : P.underlying t = some .string) (hc : P.cellsOf t = 1) : Rd P n t Kd.string (fun s => s.size ≤ maxLen) :=
  ⟨hc, fun H enc w base spare held m cs x _ hx => by
    obtain ⟨y, rfl, _, hw⟩ := DataW.trod_string h hx
    exact ⟨y, rfl, hw⟩⟩
theorem choose_list {α : Type} {Q : Nat → α → Prop} : ∀ n : Nat, (∀ i, i < n → ∃ y, Q i y) → ∃ ys : List α, ys.length = n ∧ ∀ i y, ys[i]? = some y → Q i y
  | 0, _ => ⟨[], rfl, fun i y h => by simp at h⟩
  | n + 1, h => by
    obtain ⟨ys, hl, hq⟩ := choose_list n (fun i hi => h i (by omega))
    obtain ⟨y, hy⟩ := h n (by omega)
    refine ⟨ys ++ [y], by simp [hl], fun i z hz => ?_⟩
    rcases Nat.lt_or_ge i ys.length with h1 | h1
    · rw [List.getElem?_append_left h1] at hz
      exact hq i z hz
    · rw [List.getElem?_append_right h1] at hz
      have : i - ys.length = 0 := by
        have := (List.getElem?_eq_some_iff.1 hz).1
        simp at this
        omega
      rw [this] at hz
      obtain rfl : y = z := by simpa using hz
      rwa [show i = n by omega]
theorem Rd.slice {α : Type} {d : Kd α} {G : α → Prop} (h : P.underlying t = some (.slice e)) (hc : P.cellsOf t = 1) (r : Rd P n e d G) : Rd P (n + 1) t (Kd.slice e d) (fun xs => xs.length ≤ maxLen ∧ ∀ x ∈ xs, G x) :=
  ⟨hc, fun H enc w base spare held m cs x hm hx => by
    rcases DataW.trod_slice h hx with ⟨rfl, _⟩ | ⟨a, len, cap, elems, rest, k, hk, rfl, _, hb, hl, hcm, hlen, hel, _, _⟩
    · exact ⟨[], ⟨none, 0, rfl, Nat.le_refl _, rfl, by simp, fun h0 => by simp at h0⟩, by simp, fun x hx => by cases hx⟩
    · obtain ⟨ys, hyl, hy⟩ := choose_list (Q := fun i y => ∃ c, c.length = d.sz ∧ d.K w y c ∧ (∀ j u, c[j]? = some u → w.cell? (a.add (i * d.sz + j)) = some u) ∧ G y) len (fun i hi => by
        have h1 := hel i hi
        rw [List.getElem?_eq_getElem (by omega)] at h1
        obtain ⟨c, hcc, hct⟩ := Option.bind_eq_some_iff.1 h1
        obtain ⟨_, hcl, hce⟩ := World.cells?_some hcc
        obtain ⟨y, hK, hG⟩ := r.rd H enc w base spare held k c _ (by omega) hct
        rw [r.sz] at hcl hce
        refine ⟨y, c, hcl, hK, fun j u hj => ?_, hG⟩
        have hj2 := (List.getElem?_eq_some_iff.1 hj).1
        have := hce j (by omega)
        rw [hj, ← r.sz] at this
        rw [← r.sz, ← this, Addr.add_add])
      have hlm : ys.length ≤ maxLen := by omega
      refine ⟨ys, ⟨some a, cap, by rw [hyl], by omega, rfl, by rw [hyl]; simp only [maxLen] at hcm; omega, fun _ => ⟨a, rfl, fun j p hp => ?_⟩⟩, hlm, fun y hy2 => ?_⟩
      · obtain ⟨c, h1, h2, h3, _⟩ := hy j p hp
        exact ⟨c, h1, h2, h3⟩
      · obtain ⟨i, hi⟩ := List.getElem?_of_mem hy2
        obtain ⟨_, _, _, _, h4⟩ := hy i y hi
        exact h4⟩
theorem RdF.one {α : Type} {d : Kd α} {G : α → Prop} {f : Field} {off : Nat} (ho : f.offset = off) (r : Rd P n f.type d G) : RdF P n [f] off d G :=
  ⟨fun H enc w base spare held m cs hm hl hf => by
    obtain ⟨z, hz⟩ := hf f (by simp)
    rw [ho, r.sz, List.take_of_length_le (by rw [List.length_drop]; omega)] at hz
    exact r.rd H enc w base spare held m _ _ hm hz⟩
theorem RdF.cons {α β : Type} {a : Kd α} {b : Kd β} {Ga : α → Prop} {Gb : β → Prop} {f : Field} {fs : List Field} {off off' : Nat} (ho : f.offset = off) (ho' : off + a.sz = off') (r : Rd P n f.type a Ga) (rs : RdF P n fs off' b Gb) :
    RdF P n (f :: fs) off (Kd.pair a b) (fun p => Ga p.1 ∧ Gb p.2) :=
  ⟨fun H enc w base spare held m cs hm hl hf => by
    have hs : (Kd.pair a b).sz = a.sz + b.sz := rfl
    rw [hs] at hl
    obtain ⟨z, hz⟩ := hf f (by simp)
    rw [ho, r.sz] at hz
    obtain ⟨x, hx, hgx⟩ := r.rd H enc w base spare held m _ _ hm hz
    obtain ⟨y, hy, hgy⟩ := rs.rd H enc w base spare held m cs hm (by omega) (fun g hg => hf g (by simp [hg]))
    refine ⟨(x, y), ⟨_, _, ?_, hx, hy⟩, hgx, hgy⟩
    rw [← ho', ← List.drop_drop, List.take_append_drop]⟩
theorem Rd.struct {α : Type} {d : Kd α} {G : α → Prop} {fs : Array Field} (h : P.underlying t = some (.struct fs)) (hc : P.cellsOf t = d.sz) (r : RdF P n fs.toList 0 d G) : Rd P (n + 1) t d G :=
  ⟨hc, fun H enc w base spare held m cs x hm hx => by
    obtain ⟨xs, k, hk, _, hl, hlen, hf⟩ := DataW.trod_struct h hx
    have := r.rd H enc w base spare held k cs (by omega) (by omega) (fun f hfm => by
      obtain ⟨i, hi⟩ := List.getElem?_of_mem hfm
      have h1 := hf i f (by simpa using hi)
      have hil : i < xs.length := by
        have := (List.getElem?_eq_some_iff.1 hi).1
        simp at this
        omega
      rw [List.getElem?_eq_getElem hil] at h1
      exact ⟨_, h1⟩)
    simpa using this⟩
theorem Rd.iso {α β : Type} {d : Kd α} {G : α → Prop} {f : β → α} (g : α → β) (hfg : ∀ a, f (g a) = a) (r : Rd P n t d G) : Rd P n t (Kd.iso d f) (fun b => G (f b)) :=
  ⟨r.sz, fun H enc w base spare held m cs x hm hx => by
    obtain ⟨y, hK, hG⟩ := r.rd H enc w base spare held m cs x hm hx
    exact ⟨g y, by show d.K w (f (g y)) cs; rw [hfg]; exact hK, by rw [hfg]; exact hG⟩⟩
theorem Rd.imp {α : Type} {d : Kd α} {G G' : α → Prop} (r : Rd P n t d G) (h : ∀ y, G y → G' y) : Rd P n t d G' :=
  ⟨r.sz, fun H enc w base spare held m cs x hm hx => by
    obtain ⟨y, hK, hG⟩ := r.rd H enc w base spare held m cs x hm hx
    exact ⟨y, hK, h y hG⟩⟩
/-- What holds at every number of steps but the first holds at each. -/
theorem Rd.less {α : Type} {d : Kd α} {G : α → Prop} (r : Rd P (n + 2) t d G) : Rd P n t d G :=
  ⟨r.sz, fun H enc w base spare held m cs x hm hx => r.rd H enc w base spare held m cs x (by omega) hx⟩
theorem wf_range {x : Int} (h : (Lit.int .i64 x).wf = true) : -9223372036854775808 ≤ x ∧ x ≤ 9223372036854775807 := by
  simpa [Lit.wf, IntKind.min, IntKind.max, IntKind.signed, IntKind.bits] using h
/-- A slice that came in. -/
theorem Rd.arg_slice {α : Type} {d : Kd α} {G : List α → Prop} (r : ∀ n, Rd P n t (Kd.slice e d) G) {H : Type} {enc : TypeId × Value → H} {w : World} {base : Nat} {spare : Nat → Bool} {held : Bool} {v : Value} {x : DataW H} {ps : List MemPlace}
    (h : DataW.Trod enc P w base spare held t v x ps) (hv : v.cells.toList = [v]) : ∃ A c xs, v = .slice A xs.length c ∧ xs.length ≤ c ∧ d.C w A xs.length xs ∧ G xs := by
  obtain ⟨m, hm⟩ := h
  obtain ⟨xs, ⟨A, c, hcs, hl, hC⟩, hG⟩ := (r m).rd H enc w base spare held m _ _ (Nat.le_refl _) hm
  rw [hv] at hcs
  injection hcs with hcs _
  exact ⟨A, c, xs, hcs, hl, hC, hG⟩
end Go.Proofs.Ytkaheioacolemaa.B
