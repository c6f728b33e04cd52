/- The abstract machine: values, relation, memory, single operations. -/
import Derived.Test.YtjbmdfdgeioecaaProg
import Derived.Below
import Derived.Orders
import Derived.Tactics
import Derived.KernelRfl
import Derived.Deep.MidRow
import Derived.Laws.Append
import Derived.Laws.StructEq
import Derived.OwnWalk
import Derived.Laws.CopyRow
import Derived.Laws.Tables
import Derived.DeepKeys3
import Derived.WideKeyRuns
/- The abstract machine, part 1: pure values, their relation to the model's values, growth of what is protected. -/
namespace Go.Proofs.Ytjbmdfdgeioecaa.Am
set_option linter.unusedVariables false
set_option linter.unusedSimpArgs false

/-- Pure values: one cell each, but 'agg' (cells side by side). -/
inductive PV where
  | int (k : IntKind) (n : Int)
  | bool (b : Bool)
  | str (s : ByteArray)
  | slc (es : List PV)
  | agg (cs : List PV)
  deriving Inhabited

def PV.cells : PV → List PV
  | .agg cs => cs
  | p => [p]

/-- What a temporary, or a variable's cell, holds. -/
inductive AV where
  | pv (p : PV)
  | full (es : List PV)
  | own (loc : Option Nat) (s : Nat) (es : List PV)
  | agg (cs : List AV)
  | tup (vs : List AV)
  | ptr (loc : Option Nat) (s off : Nat)
  | eptr (cs : List PV)
  | func (f : FuncId) (first caps : List AV)
  | mref (loc : Option Nat) (s : Nat)
  | row (loc : Option Nat) (s ver n : Nat)
  | rptr (loc : Option Nat) (s ver off : Nat)
  | prow (es : List AV)
  | cptr (q : Nat) (e : AV)
  | mrw (ver z : Nat) (cs : List PV)
  | ments (ks : List PV) (vs : List AV)
  | junk
  deriving Inhabited

def AV.cells : AV → List AV
  | .agg cs => cs
  | x => [x]

abbrev Prot := Nat → Nat → Option Value

/-- A pure value of one cell and a value of the model; slices are read through the protected cells. -/
inductive PR (M : Prot) : PV → Value → Prop
  | int (k : IntKind) (n : Int) : PR M (.int k n) (.int k n)
  | bool (b : Bool) : PR M (.bool b) (.bool b)
  | str (s : ByteArray) : PR M (.str s) (.string s)
  | nil (a : Option Addr) (c : Nat) : PR M (.slc []) (.slice a 0 c)
  | slc (b o cap sz : Nat) (es : List PV) (f : Nat → Nat → Value) (hc : es.length ≤ cap)
      (hz : ∀ (i : Nat) (e : PV), es[i]? = some e → e.cells.length = sz)
      (hm : ∀ (i : Nat) (e : PV) (j : Nat) (c : PV), es[i]? = some e → e.cells[j]? = some c → M b (o + i * sz + j) = some (f i j))
      (hr : ∀ (i : Nat) (e : PV) (j : Nat) (c : PV), es[i]? = some e → e.cells[j]? = some c → PR M c (f i j)) :
      PR M (.slc es) (.slice (some ⟨b, o, none⟩) es.length cap)

def Prot.le (M M' : Prot) : Prop := ∀ b o v, M b o = some v → M' b o = some v
theorem Prot.le_refl (M : Prot) : M.le M := fun _ _ _ h => h
theorem Prot.le_trans {M M' M'' : Prot} (h : M.le M') (h' : M'.le M'') : M.le M'' := fun b o v e => h' b o v (h b o v e)

theorem PR.mono {M M' : Prot} (h : M.le M') {p : PV} {v : Value} (r : PR M p v) : PR M' p v := by
  induction r with
  | int k n => exact .int k n
  | bool b => exact .bool b
  | str s => exact .str s
  | nil a c => exact .nil a c
  | slc b o cap sz es f hc hz hm hr ih => exact .slc b o cap sz es f hc hz (fun i e j c h1 h2 => h _ _ _ (hm i e j c h1 h2)) ih

inductive PRs (M : Prot) : List PV → List Value → Prop
  | nil : PRs M [] []
  | cons {p : PV} {v : Value} {ps : List PV} {vs : List Value} : PR M p v → PRs M ps vs → PRs M (p :: ps) (v :: vs)
theorem PRs.length {M : Prot} {ps : List PV} {vs : List Value} (h : PRs M ps vs) : ps.length = vs.length := by
  induction h with
  | nil => rfl
  | cons _ _ ih => simp [ih]
theorem PRs.get {M : Prot} {ps : List PV} {vs : List Value} (h : PRs M ps vs) : ∀ {j : Nat} {p : PV}, ps[j]? = some p → ∃ v, vs[j]? = some v ∧ PR M p v := by
  induction h with
  | nil => intro j p h; simp at h
  | cons hp _ ih =>
    intro j p h
    cases j with
    | zero => simp at h; subst h; exact ⟨_, by simp, hp⟩
    | succ j => simp at h; obtain ⟨v, hv, hr⟩ := ih h; exact ⟨v, by simpa using hv, hr⟩
theorem PRs.mono {M M' : Prot} (h : M.le M') {ps : List PV} {vs : List Value} (r : PRs M ps vs) : PRs M' ps vs := by
  induction r with
  | nil => exact .nil
  | cons hp _ ih => exact .cons (hp.mono h) ih
theorem PRs.append {M : Prot} {ps qs : List PV} {us vs : List Value} (h : PRs M ps us) (h' : PRs M qs vs) : PRs M (ps ++ qs) (us ++ vs) := by
  induction h with
  | nil => simpa using h'
  | cons hp _ ih => exact .cons hp ih

/-- A row that grows: where its slice begins, how many elements it may bear, how many cells an element has, how many elements it has. -/
structure Tok where
  base : Option Addr
  cap : Nat
  sz : Nat
  len : Nat

structure Gh where
  M : Prot
  φ : Nat → Nat → Option Nat
  τ : Nat → Nat → Option Tok
  ρ : Nat → Nat → Option Tok

mutual
def AR (G : Gh) (d : Nat) : AV → Value → Prop
  | .pv p, v => PR G.M p v
  | .full es, v => PR G.M (.slc es) v ∧ ∃ a, v = .slice a es.length es.length
  | .own loc s es, v => loc.getD d ≤ d ∧ PR G.M (.slc es) v ∧ ∃ t, G.τ (loc.getD d) s = some t ∧ (∀ e ∈ es, e.cells.length = t.sz) ∧ es.length ≤ t.len ∧ (es.length = t.len → v = .slice t.base es.length t.cap)
  | .agg cs, v => ∃ vs, v = .agg vs ∧ ARs G d cs vs.toList
  | .tup cs, v => ∃ vs, v = .tuple vs ∧ ARs G d cs vs.toList
  | .ptr loc s off, v => loc.getD d ≤ d ∧ ∃ b, G.φ (loc.getD d) s = some b ∧ v = .pointer (some ⟨b, off, none⟩)
  | .eptr cs, v => ∃ b o, v = .pointer (some ⟨b, o, none⟩) ∧ ∀ (j : Nat) (c : PV), cs[j]? = some c → ∃ u, G.M b (o + j) = some u ∧ PR G.M c u
  | .func f first caps, v => ∃ us vs, v = .func (.func f) us vs ∧ ARs G d first us.toList ∧ ARs G d caps vs.toList
  | .mref loc s, v => loc.getD d ≤ d ∧ ∃ b, G.φ (loc.getD d) s = some b ∧ v = .map (some b)
  | .row loc s ver n, v => loc.getD d ≤ d ∧ ∃ t base cap, G.ρ (loc.getD d) s = some t ∧ ver ≤ t.len ∧ v = .slice base n cap ∧ n ≤ cap ∧ (0 < cap → ∃ b, base = some ⟨b, 0, none⟩) ∧ (ver = t.len → base = t.base ∧ cap = t.cap)
  | .rptr loc s ver off, v => loc.getD d ≤ d ∧ ∃ t b, G.ρ (loc.getD d) s = some t ∧ ver ≤ t.len ∧ v = .pointer (some ⟨b, off, none⟩) ∧ (ver = t.len → t.base = some ⟨b, 0, none⟩)
  | .prow es, v => ∃ b vs, v = .slice (some ⟨b, 0, none⟩) es.length es.length ∧ ARs G d es vs ∧ ∀ (j : Nat) (u : Value), vs[j]? = some u → G.M b j = some u
  | .cptr q e, v => ∃ b u, v = .pointer (some ⟨b, q, none⟩) ∧ G.M b q = some u ∧ AR G d e u
  | .ments _ _, _ => False
  | .mrw _ _ _, _ => False
  | .junk, _ => True
def ARs (G : Gh) (d : Nat) : List AV → List Value → Prop
  | [], vs => vs = []
  | c :: cs, vs => ∃ u us, vs = u :: us ∧ AR G d c u ∧ ARs G d cs us
end

def Tok.le (t t' : Tok) : Prop := t.len ≤ t'.len ∧ t'.sz = t.sz ∧ (t'.len = t.len → t' = t)
theorem Tok.le_refl (t : Tok) : t.le t := ⟨Nat.le_refl _, rfl, fun _ => rfl⟩
theorem Tok.le_trans {t t' t'' : Tok} (h : t.le t') (h' : t'.le t'') : t.le t'' := by
  refine ⟨Nat.le_trans h.1 h'.1, h'.2.1.trans h.2.1, fun e => ?_⟩
  have h1 := h.1
  have h2 := h'.1
  have e1 := h'.2.2 (by omega)
  have e2 := h.2.2 (by omega)
  rw [e1, e2]

/-- What is known of protected cells, variables and rows grows. -/
structure Gh.le (G G' : Gh) : Prop where
  M : G.M.le G'.M
  φ : ∀ d s b, G.φ d s = some b → G'.φ d s = some b
  τ : ∀ d s t, G.τ d s = some t → ∃ t', G'.τ d s = some t' ∧ t.le t'
  ρ : ∀ d s t, G.ρ d s = some t → ∃ t', G'.ρ d s = some t' ∧ t.le t'
theorem Gh.le_refl (G : Gh) : G.le G := ⟨Prot.le_refl _, fun _ _ _ h => h, fun _ _ t h => ⟨t, h, t.le_refl⟩, fun _ _ t h => ⟨t, h, t.le_refl⟩⟩
theorem Gh.le_trans {G G' G'' : Gh} (h : G.le G') (h' : G'.le G'') : G.le G'' :=
  ⟨Prot.le_trans h.M h'.M, fun d s b e => h'.φ d s b (h.φ d s b e), fun d s t e => by
    obtain ⟨t1, e1, l1⟩ := h.τ d s t e
    obtain ⟨t2, e2, l2⟩ := h'.τ d s t1 e1
    exact ⟨t2, e2, Tok.le_trans l1 l2⟩, fun d s t e => by
    obtain ⟨t1, e1, l1⟩ := h.ρ d s t e
    obtain ⟨t2, e2, l2⟩ := h'.ρ d s t1 e1
    exact ⟨t2, e2, Tok.le_trans l1 l2⟩⟩

mutual
theorem AR.mono {G G' : Gh} (h : G.le G') {d : Nat} : ∀ {x : AV} {v : Value}, AR G d x v → AR G' d x v
  | .pv p, v, r => by simp only [AR] at r ⊢; exact r.mono h.M
  | .full es, v, r => by simp only [AR] at r ⊢; exact ⟨r.1.mono h.M, r.2⟩
  | .own loc s es, v, r => by
    simp only [AR] at r ⊢
    obtain ⟨r0, r1, t, ht, hz, hl, he⟩ := r
    obtain ⟨t', ht', hle⟩ := h.τ _ _ _ ht
    refine ⟨r0, r1.mono h.M, t', ht', fun e m => (hz e m).trans hle.2.1.symm, Nat.le_trans hl hle.1, fun e => ?_⟩
    have h1 := hle.1
    have e1 := hle.2.2 (by omega)
    rw [e1] at e ⊢
    exact he e
  | .agg cs, v, r => by
    simp only [AR] at r ⊢
    obtain ⟨vs, e, r⟩ := r
    exact ⟨vs, e, ARs.mono h r⟩
  | .tup cs, v, r => by
    simp only [AR] at r ⊢
    obtain ⟨vs, e, r⟩ := r
    exact ⟨vs, e, ARs.mono h r⟩
  | .ptr loc s off, v, r => by
    simp only [AR] at r ⊢
    obtain ⟨r0, b, hb, e⟩ := r
    exact ⟨r0, b, h.φ _ _ _ hb, e⟩
  | .eptr cs, v, r => by
    simp only [AR] at r ⊢
    obtain ⟨b, o, e, r⟩ := r
    refine ⟨b, o, e, fun j c hc => ?_⟩
    obtain ⟨u, hu, hp⟩ := r j c hc
    exact ⟨u, h.M _ _ _ hu, hp.mono h.M⟩
  | .func f first caps, v, r => by
    simp only [AR] at r ⊢
    obtain ⟨us, vs, e, r1, r2⟩ := r
    exact ⟨us, vs, e, ARs.mono h r1, ARs.mono h r2⟩
  | .mref loc s, v, r => by
    simp only [AR] at r ⊢
    obtain ⟨r0, b, hb, e⟩ := r
    exact ⟨r0, b, h.φ _ _ _ hb, e⟩
  | .row loc s ver n, v, r => by
    simp only [AR] at r ⊢
    obtain ⟨r0, t, base, cap, ht, hv, e, hn, hb, he⟩ := r
    obtain ⟨t', ht', hle⟩ := h.ρ _ _ _ ht
    refine ⟨r0, t', base, cap, ht', Nat.le_trans hv hle.1, e, hn, hb, fun q => ?_⟩
    have h1 := hle.1
    rw [hle.2.2 (by omega)]
    exact he (by omega)
  | .rptr loc s ver off, v, r => by
    simp only [AR] at r ⊢
    obtain ⟨r0, t, b, ht, hv, e, he⟩ := r
    obtain ⟨t', ht', hle⟩ := h.ρ _ _ _ ht
    refine ⟨r0, t', b, ht', Nat.le_trans hv hle.1, e, fun q => ?_⟩
    have h1 := hle.1
    rw [hle.2.2 (by omega)]
    exact he (by omega)
  | .prow es, v, r => by
    simp only [AR] at r ⊢
    obtain ⟨b, vs, e, r1, r2⟩ := r
    exact ⟨b, vs, e, ARs.mono h r1, fun j u hu => h.M _ _ _ (r2 j u hu)⟩
  | .cptr q x, v, r => by
    simp only [AR] at r ⊢
    obtain ⟨b, u, e, hu, r1⟩ := r
    exact ⟨b, u, e, h.M _ _ _ hu, AR.mono h r1⟩
  | .ments ks vs, v, r => by simp only [AR] at r
  | .mrw _ _ _, v, r => by simp only [AR] at r
  | .junk, v, r => by simp only [AR]
theorem ARs.mono {G G' : Gh} (h : G.le G') {d : Nat} : ∀ {xs : List AV} {vs : List Value}, ARs G d xs vs → ARs G' d xs vs
  | [], vs, r => by simp only [ARs] at r ⊢; exact r
  | c :: cs, vs, r => by
    simp only [ARs] at r ⊢
    obtain ⟨u, us, e, r1, r2⟩ := r
    exact ⟨u, us, e, AR.mono h r1, ARs.mono h r2⟩
end

theorem ARs.length {G : Gh} {d : Nat} : ∀ {xs : List AV} {vs : List Value}, ARs G d xs vs → xs.length = vs.length
  | [], vs, r => by simp only [ARs] at r; simp [r]
  | c :: cs, vs, r => by
    simp only [ARs] at r
    obtain ⟨u, us, rfl, _, r2⟩ := r
    simp [ARs.length r2]
theorem ARs.get {G : Gh} {d : Nat} : ∀ {xs : List AV} {vs : List Value}, ARs G d xs vs → ∀ {i : Nat} {x : AV}, xs[i]? = some x → ∃ v, vs[i]? = some v ∧ AR G d x v
  | [], vs, r, i, x, h => by simp at h
  | c :: cs, vs, r, i, x, h => by
    simp only [ARs] at r
    obtain ⟨u, us, rfl, r1, r2⟩ := r
    cases i with
    | zero => simp at h; subst h; exact ⟨u, by simp, r1⟩
    | succ i => simp at h; obtain ⟨v, hv, hr⟩ := ARs.get r2 h; exact ⟨v, by simpa using hv, hr⟩
theorem ARs.of_get {G : Gh} {d : Nat} : ∀ {xs : List AV} {vs : List Value}, xs.length = vs.length → (∀ (i : Nat) (x : AV) (v : Value), xs[i]? = some x → vs[i]? = some v → AR G d x v) → ARs G d xs vs
  | [], [], _, _ => by simp [ARs]
  | [], _ :: _, h, _ => by simp at h
  | _ :: _, [], h, _ => by simp at h
  | c :: cs, v :: vs, h, g => by
    simp only [ARs]
    exact ⟨v, vs, rfl, g 0 c v (by simp) (by simp), ARs.of_get (by simpa using h) (fun i x u h1 h2 => g (i + 1) x u (by simpa using h1) (by simpa using h2))⟩
theorem ARs.append {G : Gh} {d : Nat} : ∀ {xs ys : List AV} {us vs : List Value}, ARs G d xs us → ARs G d ys vs → ARs G d (xs ++ ys) (us ++ vs)
  | [], ys, us, vs, r, s => by simp only [ARs] at r; subst r; simpa using s
  | c :: cs, ys, us, vs, r, s => by
    simp only [ARs] at r
    obtain ⟨u, us, rfl, r1, r2⟩ := r
    simp only [List.cons_append, ARs]
    exact ⟨u, us ++ vs, rfl, r1, ARs.append r2 s⟩
theorem ARs.take {G : Gh} {d : Nat} (n : Nat) : ∀ {xs : List AV} {us : List Value}, ARs G d xs us → ARs G d (xs.take n) (us.take n) := by
  induction n with
  | zero => intro xs us r; simp [ARs]
  | succ n ih =>
    intro xs us r
    cases xs with
    | nil => simp only [ARs] at r; subst r; simp [ARs]
    | cons c cs =>
      simp only [ARs] at r
      obtain ⟨u, us, rfl, r1, r2⟩ := r
      simp only [List.take_succ_cons, ARs]
      exact ⟨u, us.take n, rfl, r1, ih r2⟩
theorem ARs.drop {G : Gh} {d : Nat} (n : Nat) : ∀ {xs : List AV} {us : List Value}, ARs G d xs us → ARs G d (xs.drop n) (us.drop n) := by
  induction n with
  | zero => intro xs us r; simpa using r
  | succ n ih =>
    intro xs us r
    cases xs with
    | nil => simp only [ARs] at r; subst r; simp [ARs]
    | cons c cs =>
      simp only [ARs] at r
      obtain ⟨u, us, rfl, r1, r2⟩ := r
      simpa using ih r2

/-- A temporary or a cell that is no 'agg' is one cell. -/
theorem AR.cells {G : Gh} {d : Nat} {x : AV} {v : Value} (h : AR G d x v) (hj : x ≠ .junk) : ARs G d x.cells v.cells.toList := by
  cases x with
  | agg cs => simp only [AR] at h; obtain ⟨vs, rfl, h⟩ := h; exact h
  | junk => exact absurd rfl hj
  | pv p =>
    have h' := h
    simp only [AR] at h
    cases h <;> simp [AV.cells, Value.cells, ARs] <;> exact h'
  | full es =>
    have h' := h
    simp only [AR] at h
    obtain ⟨_, a, rfl⟩ := h
    simp [AV.cells, Value.cells, ARs]; exact h'
  | own loc s es =>
    have h' := h
    simp only [AR] at h
    obtain ⟨_, h, _⟩ := h
    cases h <;> simp [AV.cells, Value.cells, ARs] <;> exact h'
  | tup cs =>
    have h' := h
    simp only [AR] at h
    obtain ⟨vs, rfl, h⟩ := h
    simp [AV.cells, Value.cells, ARs]; exact h'
  | ptr loc s off =>
    have h' := h
    simp only [AR] at h
    obtain ⟨_, b, hb, rfl⟩ := h
    simp [AV.cells, Value.cells, ARs]; exact h'
  | eptr cs =>
    have h' := h
    simp only [AR] at h
    obtain ⟨b, o, rfl, h⟩ := h
    simp [AV.cells, Value.cells, ARs]; exact h'
  | func f first caps =>
    have h' := h
    simp only [AR] at h
    obtain ⟨us, vs, rfl, h⟩ := h
    simp [AV.cells, Value.cells, ARs]; exact h'
  | mref loc s =>
    have h' := h
    simp only [AR] at h
    obtain ⟨_, b, hb, rfl⟩ := h
    simp [AV.cells, Value.cells, ARs]; exact h'
  | row loc s ver n =>
    have h' := h
    simp only [AR] at h
    obtain ⟨_, t, base, cap, _, _, rfl, _⟩ := h
    simp [AV.cells, Value.cells, ARs]; exact h'
  | rptr loc s ver off =>
    have h' := h
    simp only [AR] at h
    obtain ⟨_, t, b, _, _, rfl, _⟩ := h
    simp [AV.cells, Value.cells, ARs]; exact h'
  | prow es =>
    have h' := h
    simp only [AR] at h
    obtain ⟨b, vs, rfl, _⟩ := h
    simp [AV.cells, Value.cells, ARs]; exact h'
  | cptr q x =>
    have h' := h
    simp only [AR] at h
    obtain ⟨b, u, rfl, _⟩ := h
    simp [AV.cells, Value.cells, ARs]; exact h'
  | ments ks vs => simp only [AR] at h
  | mrw _ _ _ => simp only [AR] at h
end Go.Proofs.Ytjbmdfdgeioecaa.Am
/- The package's variables that the machine knows: none. -/
namespace Go.Proofs.Ytjbmdfdgeioecaa.Am
def GV : Nat → Option (List PV) := fun _ => none
end Go.Proofs.Ytjbmdfdgeioecaa.Am
/- The abstract machine, part 2: memory, states, their relation to the model's frames and worlds. -/
namespace Go.Proofs.Ytjbmdfdgeioecaa.Am
set_option linter.unusedVariables false
set_option linter.unusedSimpArgs false

/-- One frame's variables (by the slot of the operation that made them) and growing rows (slot, number of elements, cells of an element). -/
structure Mem where
  vars : List (Nat × List AV)
  toks : List (Nat × Nat × Nat)
  deriving Inhabited

/-- The frames' memories, the innermost first; a frame's depth is the number of those behind it. -/
def memAt : List Mem → Nat → Option Mem
  | [], _ => none
  | m :: ms, d => if d = ms.length then some m else memAt ms d
def modMem (f : Mem → Mem) : List Mem → Nat → List Mem
  | [], _ => []
  | m :: ms, d => if d = ms.length then f m :: ms else m :: modMem f ms d

theorem memAt_lt : ∀ {ms : List Mem} {d : Nat} {m : Mem}, memAt ms d = some m → d < ms.length
  | [], d, m, h => by simp [memAt] at h
  | m' :: ms, d, m, h => by
    simp only [memAt] at h
    split at h
    · simp; omega
    · have := memAt_lt h; simp; omega
theorem modMem_length (f : Mem → Mem) : ∀ (ms : List Mem) (d : Nat), (modMem f ms d).length = ms.length
  | [], d => rfl
  | m :: ms, d => by
    simp only [modMem]
    split <;> simp [modMem_length f ms d]
theorem memAt_modMem (f : Mem → Mem) : ∀ (ms : List Mem) (d d' : Nat), memAt (modMem f ms d) d' = if d' = d then (memAt ms d).map f else memAt ms d'
  | [], d, d' => by simp [modMem, memAt]
  | m :: ms, d, d' => by
    simp only [modMem, memAt]
    by_cases h : d = ms.length
    · subst h
      simp only [if_true, memAt]
      by_cases h' : d' = ms.length
      · simp [h']
      · simp [h']
    · simp only [h, if_false, memAt, modMem_length]
      by_cases h' : d' = ms.length
      · have hn : d' ≠ d := fun e => h (e ▸ h')
        simp [h', hn, Ne.symm h]
      · simp only [h', if_false]
        exact memAt_modMem f ms d d'

structure St where
  tmps : List AV
  mems : List Mem
  deriving Inhabited

def St.d (st : St) : Nat := st.mems.length - 1
def varAt (ms : List Mem) (d s : Nat) : Option (List AV) := (memAt ms d).bind (·.vars.lookup s)
/-- A row of no elements is none: its slot is free. -/
def tokAt (ms : List Mem) (d s : Nat) : Option (Nat × Nat) := ((memAt ms d).bind (·.toks.lookup s)).filter fun t => t.1 != 0
/-- A block's cells; none, if it is a map's. -/
def okC (o : Option (List AV)) : Option (List AV) :=
  match o with
  | some [.ments _ _] => none
  | some [.mrw _ _ _] => none
  | r => r
/-- Cells of a block that isn't a row's. -/
def notRw : List AV → Bool
  | [.mrw _ _ _] => false
  | _ => true
theorem notRw_of {cs : List AV} (h : ∀ v z l, cs ≠ [.mrw v z l]) : notRw cs = true := by
  unfold notRw
  split
  · exact absurd rfl (h _ _ _)
  · rfl
theorem notRw_ne {cs : List AV} (h : notRw cs = true) (v z : Nat) (l : List PV) : cs ≠ [.mrw v z l] := by
  rintro rfl
  cases h
theorem okC_some {o : Option (List AV)} {cs : List AV} (h : okC o = some cs) : o = some cs ∧ (∀ ks xs, cs ≠ [.ments ks xs]) ∧ notRw cs = true := by
  unfold okC at h
  split at h
  · cases h
  · cases h
  · rename_i hn hr
    exact ⟨h, fun ks xs e => hn ks xs (by rw [h, e]), notRw_of fun v z l e => hr v z l (by rw [h, e])⟩
theorem ARs.notRw {G : Gh} {d : Nat} {cs : List AV} {vs : List Value} (h : ARs G d cs vs) : Am.notRw cs = true := by
  refine notRw_of fun v z l e => ?_
  subst e
  simp only [ARs, AR] at h
  obtain ⟨_, _, _, hf, _⟩ := h
  exact hf
/-- A row's version, cells of an element, cells. -/
def rwAt (ms : List Mem) (d s : Nat) : Option (Nat × Nat × List PV) :=
  match varAt ms d s with
  | some [.mrw v z cs] => some (v, z, cs)
  | _ => none
theorem rwAt_some {ms : List Mem} {d s v z : Nat} {cs : List PV} (h : rwAt ms d s = some (v, z, cs)) : varAt ms d s = some [.mrw v z cs] := by
  unfold rwAt at h
  split at h
  · rename_i hq
    simp only [Option.some.injEq, Prod.mk.injEq] at h
    obtain ⟨rfl, rfl, rfl⟩ := h
    exact hq
  · cases h
/-- An entry's new contents, in its place; a new entry at the head. -/
def setAt {β : Type} (s : Nat) (c : β) : List (Nat × β) → List (Nat × β)
  | [] => [(s, c)]
  | (s', c') :: l => if s' = s then (s, c) :: l else (s', c') :: setAt s c l
def setVar (ms : List Mem) (d s : Nat) (cs : List AV) : List Mem := modMem (fun m => { m with vars := setAt s cs m.vars }) ms d
def setTok (ms : List Mem) (d s : Nat) (t : Nat × Nat) : List Mem := modMem (fun m => { m with toks := setAt s t m.toks }) ms d

theorem lookup_setAt {β : Type} (s : Nat) (c : β) : ∀ (l : List (Nat × β)) (s' : Nat), (setAt s c l).lookup s' = if s' = s then some c else l.lookup s'
  | [], s' => by
    by_cases h : s' = s
    · subst h; simp [setAt, List.lookup]
    · have : (s' == s) = false := by simp [h]
      simp [setAt, List.lookup, this, h]
  | (t, c') :: l, s' => by
    simp only [setAt]
    by_cases ht : t = s
    · subst ht
      simp only [if_true, List.lookup]
      by_cases h : s' = t
      · subst h; simp
      · have : (s' == t) = false := by simp [h]
        simp [this, h]
    · simp only [ht, if_false, List.lookup]
      by_cases h : s' = t
      · subst h; simp [ht]
      · have : (s' == t) = false := by simp [h]
        simp only [this]
        exact lookup_setAt s c l s'
theorem varAt_setVar (ms : List Mem) (d s : Nat) (cs : List AV) (d' s' : Nat) : varAt (setVar ms d s cs) d' s' = if d' = d ∧ s' = s ∧ (memAt ms d).isSome then some cs else varAt ms d' s' := by
  unfold varAt setVar
  rw [memAt_modMem]
  by_cases hd : d' = d
  · subst hd
    simp only [if_true]
    cases h : memAt ms d' with
    | none => simp
    | some m =>
      simp only [Option.map_some, Option.bind_some, lookup_setAt]
      by_cases hs : s' = s <;> simp [hs]
  · simp [hd]
theorem varAt_setTok (ms : List Mem) (d s : Nat) (t : Nat × Nat) (d' s' : Nat) : varAt (setTok ms d s t) d' s' = varAt ms d' s' := by
  unfold varAt setTok
  rw [memAt_modMem]
  by_cases hd : d' = d
  · subst hd
    simp only [if_true]
    cases h : memAt ms d' <;> simp
  · simp [hd]
theorem tokAt_setVar (ms : List Mem) (d s : Nat) (cs : List AV) (d' s' : Nat) : tokAt (setVar ms d s cs) d' s' = tokAt ms d' s' := by
  unfold tokAt setVar
  rw [memAt_modMem]
  by_cases hd : d' = d
  · subst hd
    simp only [if_true]
    cases h : memAt ms d' <;> simp
  · simp [hd]
theorem tokAt_setTok (ms : List Mem) (d s : Nat) (t : Nat × Nat) (ht : t.1 ≠ 0) (d' s' : Nat) : tokAt (setTok ms d s t) d' s' = if d' = d ∧ s' = s ∧ (memAt ms d).isSome then some t else tokAt ms d' s' := by
  unfold tokAt setTok
  rw [memAt_modMem]
  by_cases hd : d' = d
  · subst hd
    simp only [if_true]
    cases h : memAt ms d' with
    | none => simp
    | some m =>
      simp only [Option.map_some, Option.bind_some, lookup_setAt]
      by_cases hs : s' = s <;> simp [hs, ht, Option.filter]
  · simp [hd]

/-- Who owns a block: a variable (true, depth, slot) or a growing row (false, depth, slot). -/
abbrev Owner := Nat → Option (Bool × Nat × Nat)

def pvVal : PV → Value
  | .int k n => .int k n
  | .bool b => .bool b
  | .str s => .string s
  | _ => undef
/-- A key of a map. -/
def KR (M : Prot) (k : PV) (v : Value) : Prop :=
  match k with
  | .agg ps => ∃ vs, v = .agg vs ∧ vs.toList = ps.map pvVal
  | p => PR M p v
/-- A map's entries bear stamps below the clock, no stamp twice. -/
def Born (es : Array MapEntry) (clock : Nat) : Prop := (∀ x ∈ es.toList, x.born < clock) ∧ (es.toList.map (·.born)).Nodup
theorem Born.push {es : Array MapEntry} {clock : Nat} (h : Born es clock) (k v : Value) : Born (es.push { key := k, val := v, born := clock }) (clock + 1) := by
  refine ⟨fun x hx => ?_, ?_⟩
  · rw [Array.toList_push, List.mem_append] at hx
    rcases hx with hx | hx
    · exact Nat.lt_succ_of_lt (h.1 x hx)
    · simp only [List.mem_singleton] at hx
      subst hx
      exact Nat.lt_succ_self _
  · rw [Array.toList_push, List.map_append, List.nodup_append]
    refine ⟨h.2, by simp, fun a ha b hb => ?_⟩
    simp only [List.map_cons, List.map_nil, List.mem_singleton] at hb
    subst hb
    obtain ⟨x, hx, rfl⟩ := List.mem_map.mp ha
    exact Nat.ne_of_lt (h.1 x hx)
/-- What a variable's block holds: cells, or a map's entries. -/
def VR (G : Gh) (d : Nat) (cs : List AV) (o : Obj) : Prop :=
  (∃ vs e, o = .cells vs e (0, 0) ∧ ARs G d cs vs.toList) ∨
  ∃ ks xs es clock, cs = [.ments ks xs] ∧ o = .map es clock ∧ ks.length = es.size ∧ (∀ (i : Nat) (k : PV) (e : MapEntry), ks[i]? = some k → es[i]? = some e → KR G.M k e.key) ∧ ARs G d xs (es.toList.map (·.val)) ∧ Born es clock
theorem KR.mono {M M' : Prot} (h : M.le M') {k : PV} {v : Value} (r : KR M k v) : KR M' k v := by
  cases k <;> first | exact PR.mono h r | exact r
theorem VR.mono {G G' : Gh} (h : G.le G') {d : Nat} {cs : List AV} {o : Obj} (r : VR G d cs o) : VR G' d cs o := by
  rcases r with ⟨vs, e, r1, r2⟩ | ⟨ks, xs, es, clock, r1, r2, r3, r4, r5, r6⟩
  · exact .inl ⟨vs, e, r1, r2.mono h⟩
  · exact .inr ⟨ks, xs, es, clock, r1, r2, r3, fun i k e h1 h2 => (r4 i k e h1 h2).mono h.M, r5.mono h, r6⟩
theorem VR.notRw {G : Gh} {d : Nat} {cs : List AV} {o : Obj} (r : VR G d cs o) : Am.notRw cs = true := by
  rcases r with ⟨vs, e, r1, r2⟩ | ⟨ks, xs, es, clock, r1, _⟩
  · exact r2.notRw
  · subst r1; rfl
/-- A block that is read through a pointer holds cells. -/
theorem VR.cells {G : Gh} {d : Nat} {cs : List AV} {o : Obj} (r : VR G d cs o) (h : ∀ ks xs, cs ≠ [.ments ks xs]) : ∃ vs e, o = .cells vs e (0, 0) ∧ ARs G d cs vs.toList := by
  rcases r with r | ⟨ks, xs, _, _, r1, _⟩
  · exact r
  · exact absurd r1 (h ks xs)

/-- A row that may be written: its block is its own. -/
def RwOK (G : Gh) (ow : Owner) (w : World) (d s ver z : Nat) (cs : List PV) : Prop :=
  ∃ t, G.ρ d s = some t ∧ t.len = ver ∧ t.sz = z ∧ cs.length ≤ t.cap * z ∧
    (0 < t.cap → ∃ b vs e, t.base = some ⟨b, 0, none⟩ ∧ ow b = some (true, d, s) ∧ w.heap[b]? = some (.cells vs e (0, 0)) ∧ vs.size = t.cap * z ∧ PRs G.M cs (vs.toList.take cs.length) ∧ ∀ o, G.M b o = none)
theorem RwOK.keep {G G' : Gh} {ow ow' : Owner} {w w' : World} {d s ver z : Nat} {cs : List PV} (h : RwOK G ow w d s ver z cs) (hle : G.le G') (hρ : G'.ρ d s = G.ρ d s)
    (hw : ∀ b, b < w.heap.size → ow b = some (true, d, s) → w'.heap[b]? = w.heap[b]? ∧ ow' b = ow b ∧ ∀ o, G'.M b o = G.M b o) : RwOK G' ow' w' d s ver z cs := by
  obtain ⟨t, h1, h2, h3, h4, h5⟩ := h
  refine ⟨t, by rw [hρ]; exact h1, h2, h3, h4, fun hc => ?_⟩
  obtain ⟨b, vs, e, g1, g2, g3, g4, g5, g6⟩ := h5 hc
  obtain ⟨k1, k2, k3⟩ := hw b (Array.getElem?_eq_some_iff.mp g3).1 g2
  exact ⟨b, vs, e, g1, by rw [k2]; exact g2, by rw [k1]; exact g3, g4, g5.mono hle.M, fun o => by rw [k3]; exact g6 o⟩
/-- The package's variables, as far as they are known. -/
def GlOK (G : Gh) : Prop := ∀ g cs, GV g = some cs → ∀ (j : Nat) (c : PV), cs[j]? = some c → ∃ u, G.M g j = some u ∧ PR G.M c u
theorem GlOK.mono {G G' : Gh} (h : GlOK G) (hM : G.M.le G'.M) : GlOK G' := fun g cs hg j c hc => by
  obtain ⟨u, h1, h2⟩ := h g cs hg j c hc
  exact ⟨u, hM _ _ _ h1, h2.mono hM⟩

structure RM (G : Gh) (ow : Owner) (ms : List Mem) (w : World) : Prop where
  prot : ∀ b o v, G.M b o = some v → w.cell? ⟨b, o, none⟩ = some v
  var : ∀ d s cs, varAt ms d s = some cs → notRw cs = true → ∃ b ob, G.φ d s = some b ∧ ow b = some (true, d, s) ∧ w.heap[b]? = some ob ∧ VR G d cs ob ∧ ∀ o, G.M b o = none
  tok : ∀ d s n z, tokAt ms d s = some (n, z) → ∃ t, G.τ d s = some t ∧ t.len = n ∧ t.sz = z ∧ n ≤ t.cap ∧
    (n < t.cap → ∃ b vs e, t.base = some ⟨b, 0, none⟩ ∧ ow b = some (false, d, s) ∧ w.heap[b]? = some (.cells vs e (0, 0)) ∧ vs.size = t.cap * z ∧ ∀ o, n * z ≤ o → G.M b o = none)
  φsome : ∀ d s b, G.φ d s = some b → (varAt ms d s).isSome
  τsome : ∀ d s t, G.τ d s = some t → ∃ z, tokAt ms d s = some (t.len, z)
  owlt : ∀ b x, ow b = some x → b < w.heap.size
  row : ∀ d s ver z cs, varAt ms d s = some [.mrw ver z cs] → RwOK G ow w d s ver z cs
  ρsome : ∀ d s t, G.ρ d s = some t → ∃ z cs, varAt ms d s = some [.mrw t.len z cs]
  glob : GlOK G

/-- What a walk leaves alone: the old blocks that nobody owns. -/
structure Fr (G G' : Gh) (ow ow' : Owner) (w w' : World) : Prop where
  size : w.heap.size ≤ w'.heap.size
  same : ∀ b, b < w.heap.size → ow b = none → w'.heap[b]? = w.heap[b]?
  M : ∀ b, b < w.heap.size → ow b = none → ∀ o, G'.M b o = G.M b o
  ow : ∀ b, b < w.heap.size → ow b = none → ow' b = none
  env : w'.os = w.os ∧ w'.tape = w.tape ∧ w'.output = w.output
theorem Fr.refl (G : Gh) (ow : Owner) (w : World) : Fr G G ow ow w w := ⟨Nat.le_refl _, fun _ _ _ => rfl, fun _ _ _ _ => rfl, fun _ _ h => h, rfl, rfl, rfl⟩
theorem Fr.trans {G G' G'' : Gh} {ow ow' ow'' : Owner} {w w' w'' : World} (h : Fr G G' ow ow' w w') (h' : Fr G' G'' ow' ow'' w' w'') : Fr G G'' ow ow'' w w'' := by
  have hs := h.size
  refine ⟨Nat.le_trans h.size h'.size, fun b hb ho => ?_, fun b hb ho o => ?_, fun b hb ho => ?_, h'.env.1.trans h.env.1, h'.env.2.1.trans h.env.2.1, h'.env.2.2.trans h.env.2.2⟩
  · rw [h'.same b (by omega) (h.ow b hb ho), h.same b hb ho]
  · rw [h'.M b (by omega) (h.ow b hb ho), h.M b hb ho]
  · exact h'.ow b (by omega) (h.ow b hb ho)

structure Rel (G : Gh) (ow : Owner) (st : St) (a : Act) (w : World) : Prop where
  tmps : ARs G st.d st.tmps a.tmps.toList
  defers : a.defers = []
  mem : RM G ow st.mems w

def St.eval (st : St) : Operand → AV
  | .tmp t => st.tmps.getD t .junk
  | .const v => match v with
    | .int k n => .pv (.int k n)
    | .bool b => .pv (.bool b)
    | .string s => .pv (.str s)
    | .slice none 0 0 => .full []
    | _ => .junk
  | .func f => .func f [] []
  | .global g => match GV g with
    | some cs => .eptr cs
    | none => .junk

theorem Rel.eval {G : Gh} {ow : Owner} {st : St} {a : Act} {w : World} (h : Rel G ow st a w) (x : Operand) : AR G st.d (st.eval x) (a.eval x) := by
  cases x with
  | tmp t =>
    simp only [St.eval, Act.eval]
    cases ht : st.tmps[t]? with
    | none => simp [List.getD, ht, AR]
    | some y =>
      obtain ⟨v, hv, r⟩ := h.tmps.get ht
      have : a.tmps.getD t undef = v := by
        simp only [Array.getElem?_toList] at hv
        simp [Array.getD_eq_getD_getElem?, hv]
      simp only [List.getD, ht, Option.getD_some, this]
      exact r
  | const v =>
    simp only [St.eval, Act.eval]
    split <;> simp only [AR]
    · exact .int _ _
    · exact .bool _
    · exact .str _
    · exact ⟨.nil none 0, none, rfl⟩
  | func f =>
    simp only [St.eval, Act.eval, AR]
    exact ⟨#[], #[], rfl, by simp [ARs], by simp [ARs]⟩
  | global g =>
    simp only [St.eval, Act.eval]
    split
    · rename_i cs hg
      simp only [AR]
      exact ⟨g, 0, rfl, fun j c hc => by rw [Nat.zero_add]; exact h.mem.glob g cs hg j c hc⟩
    · simp only [AR]

def St.put (st : St) (dst : Option Tmp) (v : AV) : St :=
  match dst with
  | some d => { st with tmps := st.tmps.set d v }
  | none => st
theorem ARs.set {G : Gh} {d : Nat} : ∀ {xs : List AV} {us : List Value} (i : Nat) {x : AV} {u : Value}, ARs G d xs us → AR G d x u → ARs G d (xs.set i x) (us.set i u)
  | [], us, i, x, u, r, _ => by simp only [ARs] at r; subst r; simp [ARs]
  | c :: cs, us, i, x, u, r, h => by
    simp only [ARs] at r
    obtain ⟨v, vs, rfl, r1, r2⟩ := r
    cases i with
    | zero => simp only [List.set_cons_zero, ARs]; exact ⟨u, vs, rfl, h, r2⟩
    | succ i => simp only [List.set_cons_succ, ARs]; exact ⟨v, vs.set i u, rfl, r1, ARs.set i r2 h⟩
theorem Rel.put {G : Gh} {ow : Owner} {st : St} {a : Act} {w : World} (h : Rel G ow st a w) (dst : Option Tmp) {x : AV} {v : Value} (r : AR G st.d x v) : Rel G ow (st.put dst x) (a.put dst v) w := by
  cases dst with
  | none => exact h
  | some d =>
    refine ⟨?_, h.defers, h.mem⟩
    simp only [St.put, Act.put, Array.toList_setIfInBounds]
    exact ARs.set d h.tmps r

theorem cell?_of_heap {w w' : World} {b o : Nat} (h : w'.heap[b]? = w.heap[b]?) : w'.cell? ⟨b, o, none⟩ = w.cell? ⟨b, o, none⟩ := by
  simp [World.cell?, h]
theorem prot_lt {G : Gh} {ow : Owner} {ms : List Mem} {w : World} (h : RM G ow ms w) {b o : Nat} {v : Value} (e : G.M b o = some v) : b < w.heap.size := by
  have := h.prot b o v e
  simp only [World.cell?] at this
  cases hb : w.heap[b]? with
  | none => rw [hb] at this; simp at this
  | some x => exact (Array.getElem?_eq_some_iff.mp hb).1
theorem RM.fresh {G : Gh} {ow : Owner} {ms : List Mem} {w : World} (h : RM G ow ms w) (o : Nat) : G.M w.heap.size o = none := by
  cases e : G.M w.heap.size o with
  | none => rfl
  | some v => exact absurd (prot_lt h e) (Nat.lt_irrefl _)
end Go.Proofs.Ytjbmdfdgeioecaa.Am
/- The abstract machine, part 3: values taken out of a frame, pure parts of values, reading slices. -/
namespace Go.Proofs.Ytjbmdfdgeioecaa.Am
set_option linter.unusedVariables false
set_option linter.unusedSimpArgs false

mutual
/-- The frame's own references, spoken of by its depth. -/
def AV.reloc (d : Nat) : AV → AV
  | .own none s es => .own (some d) s es
  | .ptr none s off => .ptr (some d) s off
  | .mref none s => .mref (some d) s
  | .row none s v n => .row (some d) s v n
  | .rptr none s v off => .rptr (some d) s v off
  | .prow es => .prow (relocs d es)
  | .cptr q e => .cptr q (e.reloc d)
  | .agg cs => .agg (relocs d cs)
  | .tup cs => .tup (relocs d cs)
  | .func f first caps => .func f (relocs d first) (relocs d caps)
  | x => x
def relocs (d : Nat) : List AV → List AV
  | [] => []
  | x :: xs => x.reloc d :: relocs d xs
end
mutual
/-- What may leave the frame of depth k: references to it, or to inner ones, are let go. -/
def AV.exp (k : Nat) : AV → AV
  | .own none s es => .pv (.slc es)
  | .own (some d) s es => if d < k then .own (some d) s es else .pv (.slc es)
  | .ptr none s off => .junk
  | .ptr (some d) s off => if d < k then .ptr (some d) s off else .junk
  | .mref none s => .junk
  | .mref (some d) s => if d < k then .mref (some d) s else .junk
  | .row none s v n => .junk
  | .row (some d) s v n => if d < k then .row (some d) s v n else .junk
  | .rptr none s v off => .junk
  | .rptr (some d) s v off => if d < k then .rptr (some d) s v off else .junk
  | .prow es => .prow (exps k es)
  | .cptr q e => .cptr q (e.exp k)
  | .agg cs => .agg (exps k cs)
  | .tup cs => .tup (exps k cs)
  | .func f first caps => .func f (exps k first) (exps k caps)
  | .full es => .pv (.slc es)
  | x => x
def exps (k : Nat) : List AV → List AV
  | [] => []
  | x :: xs => x.exp k :: exps k xs
end
mutual
/-- No reference of the frame's own, none to a depth ≥ k. -/
def AV.closed (k : Nat) : AV → Bool
  | .own none _ _ => false
  | .own (some d) _ _ => d < k
  | .ptr none _ _ => false
  | .ptr (some d) _ _ => d < k
  | .mref none _ => false
  | .mref (some d) _ => d < k
  | .row none _ _ _ => false
  | .row (some d) _ _ _ => d < k
  | .rptr none _ _ _ => false
  | .rptr (some d) _ _ _ => d < k
  | .prow es => closeds k es
  | .cptr _ e => e.closed k
  | .agg cs => closeds k cs
  | .tup cs => closeds k cs
  | .func _ first caps => closeds k first && closeds k caps
  | _ => true
def closeds (k : Nat) : List AV → Bool
  | [] => true
  | x :: xs => x.closed k && closeds k xs
end

mutual
theorem AR.reloc {G : Gh} {d d' : Nat} (hd : d ≤ d') : ∀ {x : AV} {v : Value}, AR G d x v → AR G d' (x.reloc d) v
  | .pv p, v, r => by simpa only [AV.reloc, AR] using r
  | .full es, v, r => by simpa only [AV.reloc, AR] using r
  | .own none s es, v, r => by
    simp only [AV.reloc, AR, Option.getD_none, Option.getD_some] at r ⊢
    exact ⟨hd, r.2⟩
  | .own (some k) s es, v, r => by
    simp only [AV.reloc, AR, Option.getD_none, Option.getD_some] at r ⊢
    exact ⟨Nat.le_trans r.1 hd, r.2⟩
  | .agg cs, v, r => by
    simp only [AV.reloc, AR] at r ⊢
    obtain ⟨vs, e, r⟩ := r
    exact ⟨vs, e, ARs.relocs hd r⟩
  | .tup cs, v, r => by
    simp only [AV.reloc, AR] at r ⊢
    obtain ⟨vs, e, r⟩ := r
    exact ⟨vs, e, ARs.relocs hd r⟩
  | .ptr none s off, v, r => by
    simp only [AV.reloc, AR, Option.getD_none, Option.getD_some] at r ⊢
    exact ⟨hd, r.2⟩
  | .ptr (some k) s off, v, r => by
    simp only [AV.reloc, AR, Option.getD_none, Option.getD_some] at r ⊢
    exact ⟨Nat.le_trans r.1 hd, r.2⟩
  | .mref none s, v, r => by
    simp only [AV.reloc, AR, Option.getD_none, Option.getD_some] at r ⊢
    exact ⟨hd, r.2⟩
  | .mref (some k) s, v, r => by
    simp only [AV.reloc, AR, Option.getD_none, Option.getD_some] at r ⊢
    exact ⟨Nat.le_trans r.1 hd, r.2⟩
  | .ments ks xs, v, r => by simp only [AR] at r
  | .mrw _ _ _, v, r => by simp only [AR] at r
  | .row none s _ _, v, r => by
    simp only [AV.reloc, AR, Option.getD_none, Option.getD_some] at r ⊢
    exact ⟨hd, r.2⟩
  | .row (some k) s _ _, v, r => by
    simp only [AV.reloc, AR, Option.getD_none, Option.getD_some] at r ⊢
    exact ⟨Nat.le_trans r.1 hd, r.2⟩
  | .rptr none s _ _, v, r => by
    simp only [AV.reloc, AR, Option.getD_none, Option.getD_some] at r ⊢
    exact ⟨hd, r.2⟩
  | .rptr (some k) s _ _, v, r => by
    simp only [AV.reloc, AR, Option.getD_none, Option.getD_some] at r ⊢
    exact ⟨Nat.le_trans r.1 hd, r.2⟩
  | .prow es, v, r => by
    simp only [AV.reloc, AR] at r ⊢
    obtain ⟨b, vs, e, r1, r2⟩ := r
    have hl := (ARs.relocs hd r1).length
    have hl' := r1.length
    exact ⟨b, vs, by rw [hl, ← hl']; exact e, ARs.relocs hd r1, r2⟩
  | .cptr q x, v, r => by
    simp only [AV.reloc, AR] at r ⊢
    obtain ⟨b, u, e, hu, r1⟩ := r
    exact ⟨b, u, e, hu, AR.reloc hd r1⟩
  | .eptr cs, v, r => by simpa only [AV.reloc, AR] using r
  | .func f first caps, v, r => by
    simp only [AV.reloc, AR] at r ⊢
    obtain ⟨us, vs, e, r1, r2⟩ := r
    exact ⟨us, vs, e, ARs.relocs hd r1, ARs.relocs hd r2⟩
  | .junk, v, r => by simp only [AV.reloc, AR]
theorem ARs.relocs {G : Gh} {d d' : Nat} (hd : d ≤ d') : ∀ {xs : List AV} {vs : List Value}, ARs G d xs vs → ARs G d' (relocs d xs) vs
  | [], vs, r => by simpa only [Am.relocs, ARs] using r
  | c :: cs, vs, r => by
    simp only [Am.relocs, ARs] at r ⊢
    obtain ⟨u, us, e, r1, r2⟩ := r
    exact ⟨u, us, e, AR.reloc hd r1, ARs.relocs hd r2⟩
end

/-- What a frame's end leaves of what was known. -/
structure Gh.upto (k : Nat) (G G' : Gh) : Prop where
  M : G.M.le G'.M
  φ : ∀ d s b, d < k → G.φ d s = some b → G'.φ d s = some b
  τ : ∀ d s t, d < k → G.τ d s = some t → ∃ t', G'.τ d s = some t' ∧ t.le t'
  ρ : ∀ d s t, d < k → G.ρ d s = some t → ∃ t', G'.ρ d s = some t' ∧ t.le t'

mutual
theorem AR.exp {k : Nat} {G G' : Gh} (h : G.upto k G') {d d' : Nat} (hk : k ≤ d' + 1) : ∀ {x : AV} {v : Value}, AR G d x v → AR G' d' (x.exp k) v
  | .pv p, v, r => by simp only [AV.exp, AR] at r ⊢; exact r.mono h.M
  | .full es, v, r => by simp only [AV.exp, AR] at r ⊢; exact r.1.mono h.M
  | .own none s es, v, r => by simp only [AV.exp, AR] at r ⊢; exact r.2.1.mono h.M
  | .own (some e) s es, v, r => by
    simp only [AV.exp]
    simp only [AR, Option.getD_some] at r
    obtain ⟨r0, r1, t, ht, hz, hl, he⟩ := r
    split
    · rename_i hlt
      simp only [AR, Option.getD_some]
      obtain ⟨t', ht', hle⟩ := h.τ _ _ _ hlt ht
      refine ⟨by omega, r1.mono h.M, t', ht', fun e m => (hz e m).trans hle.2.1.symm, Nat.le_trans hl hle.1, fun e => ?_⟩
      have h1 := hle.1
      have e1 := hle.2.2 (by omega)
      rw [e1] at e ⊢
      exact he e
    · simp only [AR]; exact r1.mono h.M
  | .agg cs, v, r => by
    simp only [AV.exp, AR] at r ⊢
    obtain ⟨vs, e, r⟩ := r
    exact ⟨vs, e, ARs.exps h hk r⟩
  | .tup cs, v, r => by
    simp only [AV.exp, AR] at r ⊢
    obtain ⟨vs, e, r⟩ := r
    exact ⟨vs, e, ARs.exps h hk r⟩
  | .mref none s, v, r => by simp only [AV.exp, AR]
  | .mref (some e) s, v, r => by
    simp only [AV.exp]
    simp only [AR, Option.getD_some] at r
    obtain ⟨r0, b, hb, e⟩ := r
    split
    · rename_i hlt; simp only [AR, Option.getD_some]; exact ⟨by omega, b, h.φ _ _ _ hlt hb, e⟩
    · simp only [AR]
  | .ments ks xs, v, r => by simp only [AR] at r
  | .mrw _ _ _, v, r => by simp only [AR] at r
  | .row none s _ _, v, r => by simp only [AV.exp, AR]
  | .row (some i) s ver n, v, r => by
    simp only [AV.exp]
    simp only [AR, Option.getD_some] at r
    obtain ⟨r0, t, base, cap, ht, hv, e, hn, hb, he⟩ := r
    split
    · rename_i hlt
      simp only [AR, Option.getD_some]
      obtain ⟨t', ht', hle⟩ := h.ρ _ _ _ hlt ht
      refine ⟨by omega, t', base, cap, ht', Nat.le_trans hv hle.1, e, hn, hb, fun q => ?_⟩
      have h1 := hle.1
      rw [hle.2.2 (by omega)]
      exact he (by omega)
    · simp only [AR]
  | .rptr none s _ _, v, r => by simp only [AV.exp, AR]
  | .rptr (some i) s ver off, v, r => by
    simp only [AV.exp]
    simp only [AR, Option.getD_some] at r
    obtain ⟨r0, t, b, ht, hv, e, he⟩ := r
    split
    · rename_i hlt
      simp only [AR, Option.getD_some]
      obtain ⟨t', ht', hle⟩ := h.ρ _ _ _ hlt ht
      refine ⟨by omega, t', b, ht', Nat.le_trans hv hle.1, e, fun q => ?_⟩
      have h1 := hle.1
      rw [hle.2.2 (by omega)]
      exact he (by omega)
    · simp only [AR]
  | .prow es, v, r => by
    simp only [AV.exp, AR] at r ⊢
    obtain ⟨b, vs, e, r1, r2⟩ := r
    have r1' := ARs.exps h hk (d' := d') r1
    have hl := r1'.length
    have hl' := r1.length
    exact ⟨b, vs, by rw [hl, ← hl']; exact e, r1', fun j u hu => h.M _ _ _ (r2 j u hu)⟩
  | .cptr q x, v, r => by
    simp only [AV.exp, AR] at r ⊢
    obtain ⟨b, u, e, hu, r1⟩ := r
    exact ⟨b, u, e, h.M _ _ _ hu, AR.exp h hk r1⟩
  | .ptr none s off, v, r => by simp only [AV.exp, AR]
  | .ptr (some e) s off, v, r => by
    simp only [AV.exp]
    simp only [AR, Option.getD_some] at r
    obtain ⟨r0, b, hb, e⟩ := r
    split
    · rename_i hlt; simp only [AR, Option.getD_some]; exact ⟨by omega, b, h.φ _ _ _ hlt hb, e⟩
    · simp only [AR]
  | .eptr cs, v, r => by
    simp only [AV.exp, AR] at r ⊢
    obtain ⟨b, o, e, r⟩ := r
    refine ⟨b, o, e, fun j c hc => ?_⟩
    obtain ⟨u, hu, hp⟩ := r j c hc
    exact ⟨u, h.M _ _ _ hu, hp.mono h.M⟩
  | .func f first caps, v, r => by
    simp only [AV.exp, AR] at r ⊢
    obtain ⟨us, vs, e, r1, r2⟩ := r
    exact ⟨us, vs, e, ARs.exps h hk r1, ARs.exps h hk r2⟩
  | .junk, v, r => by simp only [AV.exp, AR]
theorem ARs.exps {k : Nat} {G G' : Gh} (h : G.upto k G') {d d' : Nat} (hk : k ≤ d' + 1) : ∀ {xs : List AV} {vs : List Value}, ARs G d xs vs → ARs G' d' (exps k xs) vs
  | [], vs, r => by simpa only [Am.exps, ARs] using r
  | c :: cs, vs, r => by
    simp only [Am.exps, ARs] at r ⊢
    obtain ⟨u, us, e, r1, r2⟩ := r
    exact ⟨u, us, e, AR.exp h hk r1, ARs.exps h hk r2⟩
end

mutual
theorem AR.closed {k : Nat} {G G' : Gh} (h : G.upto k G') {d d' : Nat} (hk : k ≤ d' + 1) : ∀ {x : AV} {v : Value}, AR G d x v → x.closed k = true → AR G' d' x v
  | .pv p, v, r, _ => by simp only [AR] at r ⊢; exact r.mono h.M
  | .full es, v, r, _ => by simp only [AR] at r ⊢; exact ⟨r.1.mono h.M, r.2⟩
  | .own none s es, v, r, hc => by simp [AV.closed] at hc
  | .own (some e) s es, v, r, hc => by
    simp only [AV.closed, decide_eq_true_eq] at hc
    simp only [AR, Option.getD_some] at r ⊢
    obtain ⟨r0, r1, t, ht, hz, hl, he⟩ := r
    obtain ⟨t', ht', hle⟩ := h.τ _ _ _ hc ht
    refine ⟨by omega, r1.mono h.M, t', ht', fun e m => (hz e m).trans hle.2.1.symm, Nat.le_trans hl hle.1, fun e => ?_⟩
    have h1 := hle.1
    have e1 := hle.2.2 (by omega)
    rw [e1] at e ⊢
    exact he e
  | .agg cs, v, r, hc => by
    simp only [AV.closed] at hc
    simp only [AR] at r ⊢
    obtain ⟨vs, e, r⟩ := r
    exact ⟨vs, e, ARs.closeds h hk r hc⟩
  | .tup cs, v, r, hc => by
    simp only [AV.closed] at hc
    simp only [AR] at r ⊢
    obtain ⟨vs, e, r⟩ := r
    exact ⟨vs, e, ARs.closeds h hk r hc⟩
  | .mref none s, v, r, hc => by simp [AV.closed] at hc
  | .mref (some e) s, v, r, hc => by
    simp only [AV.closed, decide_eq_true_eq] at hc
    simp only [AR, Option.getD_some] at r ⊢
    obtain ⟨r0, b, hb, e⟩ := r
    exact ⟨by omega, b, h.φ _ _ _ hc hb, e⟩
  | .ments ks xs, v, r, hc => by simp only [AR] at r
  | .mrw _ _ _, v, r, hc => by simp only [AR] at r
  | .row none s _ _, v, r, hc => by simp [AV.closed] at hc
  | .row (some i) s ver n, v, r, hc => by
    simp only [AV.closed, decide_eq_true_eq] at hc
    simp only [AR, Option.getD_some] at r ⊢
    obtain ⟨r0, t, base, cap, ht, hv, e, hn, hb, he⟩ := r
    obtain ⟨t', ht', hle⟩ := h.ρ _ _ _ hc ht
    refine ⟨by omega, t', base, cap, ht', Nat.le_trans hv hle.1, e, hn, hb, fun q => ?_⟩
    have h1 := hle.1
    rw [hle.2.2 (by omega)]
    exact he (by omega)
  | .rptr none s _ _, v, r, hc => by simp [AV.closed] at hc
  | .rptr (some i) s ver off, v, r, hc => by
    simp only [AV.closed, decide_eq_true_eq] at hc
    simp only [AR, Option.getD_some] at r ⊢
    obtain ⟨r0, t, b, ht, hv, e, he⟩ := r
    obtain ⟨t', ht', hle⟩ := h.ρ _ _ _ hc ht
    refine ⟨by omega, t', b, ht', Nat.le_trans hv hle.1, e, fun q => ?_⟩
    have h1 := hle.1
    rw [hle.2.2 (by omega)]
    exact he (by omega)
  | .prow es, v, r, hc => by
    simp only [AV.closed] at hc
    simp only [AR] at r ⊢
    obtain ⟨b, vs, e, r1, r2⟩ := r
    exact ⟨b, vs, e, ARs.closeds h hk r1 hc, fun j u hu => h.M _ _ _ (r2 j u hu)⟩
  | .cptr q x, v, r, hc => by
    simp only [AV.closed] at hc
    simp only [AR] at r ⊢
    obtain ⟨b, u, e, hu, r1⟩ := r
    exact ⟨b, u, e, h.M _ _ _ hu, AR.closed h hk r1 hc⟩
  | .ptr none s off, v, r, hc => by simp [AV.closed] at hc
  | .ptr (some e) s off, v, r, hc => by
    simp only [AV.closed, decide_eq_true_eq] at hc
    simp only [AR, Option.getD_some] at r ⊢
    obtain ⟨r0, b, hb, e⟩ := r
    exact ⟨by omega, b, h.φ _ _ _ hc hb, e⟩
  | .eptr cs, v, r, _ => by
    simp only [AR] at r ⊢
    obtain ⟨b, o, e, r⟩ := r
    refine ⟨b, o, e, fun j c hc => ?_⟩
    obtain ⟨u, hu, hp⟩ := r j c hc
    exact ⟨u, h.M _ _ _ hu, hp.mono h.M⟩
  | .func f first caps, v, r, hc => by
    simp only [AV.closed, Bool.and_eq_true] at hc
    simp only [AR] at r ⊢
    obtain ⟨us, vs, e, r1, r2⟩ := r
    exact ⟨us, vs, e, ARs.closeds h hk r1 hc.1, ARs.closeds h hk r2 hc.2⟩
  | .junk, v, r, _ => by simp only [AR]
theorem ARs.closeds {k : Nat} {G G' : Gh} (h : G.upto k G') {d d' : Nat} (hk : k ≤ d' + 1) : ∀ {xs : List AV} {vs : List Value}, ARs G d xs vs → closeds k xs = true → ARs G' d' xs vs
  | [], vs, r, _ => by simpa only [ARs] using r
  | c :: cs, vs, r, hc => by
    simp only [Am.closeds, Bool.and_eq_true] at hc
    simp only [ARs] at r ⊢
    obtain ⟨u, us, e, r1, r2⟩ := r
    exact ⟨u, us, e, AR.closed h hk r1 hc.1, ARs.closeds h hk r2 hc.2⟩
end

mutual
theorem AR.upto {G G' : Gh} {d : Nat} (h : G.upto (d + 1) G') : ∀ {x : AV} {v : Value}, AR G d x v → AR G' d x v
  | .pv p, v, r => by simp only [AR] at r ⊢; exact r.mono h.M
  | .full es, v, r => by simp only [AR] at r ⊢; exact ⟨r.1.mono h.M, r.2⟩
  | .own loc s es, v, r => by
    simp only [AR] at r ⊢
    obtain ⟨r0, r1, t, ht, hz, hl, he⟩ := r
    obtain ⟨t', ht', hle⟩ := h.τ _ _ _ (by omega) ht
    refine ⟨r0, r1.mono h.M, t', ht', fun e m => (hz e m).trans hle.2.1.symm, Nat.le_trans hl hle.1, fun e => ?_⟩
    have h1 := hle.1
    have e1 := hle.2.2 (by omega)
    rw [e1] at e ⊢
    exact he e
  | .agg cs, v, r => by
    simp only [AR] at r ⊢
    obtain ⟨vs, e, r⟩ := r
    exact ⟨vs, e, ARs.uptos h r⟩
  | .tup cs, v, r => by
    simp only [AR] at r ⊢
    obtain ⟨vs, e, r⟩ := r
    exact ⟨vs, e, ARs.uptos h r⟩
  | .ptr loc s off, v, r => by
    simp only [AR] at r ⊢
    obtain ⟨r0, b, hb, e⟩ := r
    exact ⟨r0, b, h.φ _ _ _ (by omega) hb, e⟩
  | .mref loc s, v, r => by
    simp only [AR] at r ⊢
    obtain ⟨r0, b, hb, e⟩ := r
    exact ⟨r0, b, h.φ _ _ _ (by omega) hb, e⟩
  | .ments ks xs, v, r => by simp only [AR] at r
  | .mrw _ _ _, v, r => by simp only [AR] at r
  | .row loc s ver n, v, r => by
    simp only [AR] at r ⊢
    obtain ⟨r0, t, base, cap, ht, hv, e, hn, hb, he⟩ := r
    obtain ⟨t', ht', hle⟩ := h.ρ _ _ _ (by omega) ht
    refine ⟨r0, t', base, cap, ht', Nat.le_trans hv hle.1, e, hn, hb, fun q => ?_⟩
    have h1 := hle.1
    rw [hle.2.2 (by omega)]
    exact he (by omega)
  | .rptr loc s ver off, v, r => by
    simp only [AR] at r ⊢
    obtain ⟨r0, t, b, ht, hv, e, he⟩ := r
    obtain ⟨t', ht', hle⟩ := h.ρ _ _ _ (by omega) ht
    refine ⟨r0, t', b, ht', Nat.le_trans hv hle.1, e, fun q => ?_⟩
    have h1 := hle.1
    rw [hle.2.2 (by omega)]
    exact he (by omega)
  | .prow es, v, r => by
    simp only [AR] at r ⊢
    obtain ⟨b, vs, e, r1, r2⟩ := r
    exact ⟨b, vs, e, ARs.uptos h r1, fun j u hu => h.M _ _ _ (r2 j u hu)⟩
  | .cptr q x, v, r => by
    simp only [AR] at r ⊢
    obtain ⟨b, u, e, hu, r1⟩ := r
    exact ⟨b, u, e, h.M _ _ _ hu, AR.upto h r1⟩
  | .eptr cs, v, r => by
    simp only [AR] at r ⊢
    obtain ⟨b, o, e, r⟩ := r
    refine ⟨b, o, e, fun j c hc => ?_⟩
    obtain ⟨u, hu, hp⟩ := r j c hc
    exact ⟨u, h.M _ _ _ hu, hp.mono h.M⟩
  | .func f first caps, v, r => by
    simp only [AR] at r ⊢
    obtain ⟨us, vs, e, r1, r2⟩ := r
    exact ⟨us, vs, e, ARs.uptos h r1, ARs.uptos h r2⟩
  | .junk, v, r => by simp only [AR]
theorem ARs.uptos {G G' : Gh} {d : Nat} (h : G.upto (d + 1) G') : ∀ {xs : List AV} {vs : List Value}, ARs G d xs vs → ARs G' d xs vs
  | [], vs, r => by simpa only [ARs] using r
  | c :: cs, vs, r => by
    simp only [ARs] at r ⊢
    obtain ⟨u, us, e, r1, r2⟩ := r
    exact ⟨u, us, e, AR.upto h r1, ARs.uptos h r2⟩
end

theorem VR.uptos {G G' : Gh} {d : Nat} (h : G.upto (d + 1) G') {cs : List AV} {o : Obj} (r : VR G d cs o) : VR G' d cs o := by
  rcases r with ⟨vs, e, r1, r2⟩ | ⟨ks, xs, es, clock, r1, r2, r3, r4, r5, r6⟩
  · exact .inl ⟨vs, e, r1, ARs.uptos h r2⟩
  · exact .inr ⟨ks, xs, es, clock, r1, r2, r3, fun i k e h1 h2 => (r4 i k e h1 h2).mono h.M, ARs.uptos h r5, r6⟩
/-! ### Pure parts -/
def AV.slc? : AV → Option (List PV)
  | .pv (.slc es) => some es
  | .full es => some es
  | .own _ _ es => some es
  | _ => none
theorem AR.slc {G : Gh} {d : Nat} {x : AV} {v : Value} {es : List PV} (h : AR G d x v) (e : x.slc? = some es) : PR G.M (.slc es) v := by
  cases x with
  | pv p =>
    cases p <;> simp only [AV.slc?, Option.some.injEq, reduceCtorEq] at e
    subst e
    simpa only [AR] using h
  | full es' => simp only [AV.slc?, Option.some.injEq] at e; subst e; simp only [AR] at h; exact h.1
  | own loc s es' => simp only [AV.slc?, Option.some.injEq] at e; subst e; simp only [AR] at h; exact h.2.1
  | _ => simp [AV.slc?] at e
/-- One cell's pure value. -/
def AV.leaf? : AV → Option PV
  | .pv (.agg _) => none
  | .pv p => some p
  | .full es => some (.slc es)
  | .own _ _ es => some (.slc es)
  | _ => none
theorem AR.leaf {G : Gh} {d : Nat} {x : AV} {v : Value} {p : PV} (h : AR G d x v) (e : x.leaf? = some p) : PR G.M p v := by
  cases x with
  | pv q =>
    cases q <;> simp only [AV.leaf?, Option.some.injEq, reduceCtorEq] at e <;> subst e <;> simpa only [AR] using h
  | full es' => simp only [AV.leaf?, Option.some.injEq] at e; subst e; simp only [AR] at h; exact h.1
  | own loc s es' => simp only [AV.leaf?, Option.some.injEq] at e; subst e; simp only [AR] at h; exact h.2.1
  | _ => simp [AV.leaf?] at e
def leaves? : List AV → Option (List PV)
  | [] => some []
  | x :: xs => match x.leaf?, leaves? xs with
    | some p, some ps => some (p :: ps)
    | _, _ => none
/-- A whole value's pure value: what an element of a slice may be. -/
def AV.down? : AV → Option PV
  | .agg cs => (leaves? cs).map .agg
  | x => x.leaf?
theorem ARs.leaves {G : Gh} {d : Nat} : ∀ {xs : List AV} {vs : List Value} {ps : List PV}, ARs G d xs vs → leaves? xs = some ps → PRs G.M ps vs
  | [], vs, ps, r, e => by simp only [ARs] at r; simp only [leaves?, Option.some.injEq] at e; subst r; subst e; exact .nil
  | x :: xs, vs, ps, r, e => by
    simp only [ARs] at r
    obtain ⟨u, us, rfl, r1, r2⟩ := r
    simp only [leaves?] at e
    cases h1 : x.leaf? with
    | none => simp [h1] at e
    | some p =>
      cases h2 : leaves? xs with
      | none => simp [h1, h2] at e
      | some qs =>
        simp only [h1, h2, Option.some.injEq] at e
        subst e
        exact .cons (AR.leaf r1 h1) (ARs.leaves r2 h2)
theorem PR.one {M : Prot} {p : PV} {v : Value} (h : PR M p v) : p.cells = [p] ∧ v.cells = #[v] ∧ v.oneCell' = true := by
  cases h <;> exact ⟨rfl, rfl, rfl⟩
theorem AR.down {G : Gh} {d : Nat} {x : AV} {v : Value} {p : PV} (h : AR G d x v) (e : x.down? = some p) : PRs G.M p.cells v.cells.toList := by
  cases x with
  | agg cs =>
    simp only [AV.down?, Option.map_eq_some_iff] at e
    obtain ⟨ps, e, rfl⟩ := e
    simp only [AR] at h
    obtain ⟨vs, rfl, h⟩ := h
    simpa [PV.cells, Value.cells] using ARs.leaves h e
  | _ =>
    simp only [AV.down?] at e
    have r := AR.leaf h e
    obtain ⟨h1, h2, _⟩ := r.one
    rw [h1, h2]
    exact .cons r .nil
theorem PRs.one {M : Prot} {ps : List PV} {vs : List Value} (h : PRs M ps vs) : ∀ v ∈ vs, v.oneCell' = true := by
  induction h with
  | nil => intro v hv; simp at hv
  | cons hp _ ih => intro v hv; rcases List.mem_cons.mp hv with rfl | hv; exact hp.one.2.2; exact ih v hv

/-- The cells of a slice's elements, side by side. -/
def cellsOf (es : List PV) : List PV := es.flatMap PV.cells
theorem PR.slc_nil {M : Prot} {v : Value} (h : PR M (.slc []) v) : ∃ a c, v = .slice a 0 c := by
  cases h with
  | nil => exact ⟨_, _, rfl⟩
  | slc b o cap sz es f hc hz hm hr => exact ⟨_, _, rfl⟩
theorem PR.slc_len {M : Prot} {es : List PV} {v : Value} (h : PR M (.slc es) v) : ∃ a c, v = .slice a es.length c := by
  cases h with
  | nil => exact ⟨_, _, rfl⟩
  | slc b o cap sz es f hc hz hm hr => exact ⟨_, _, rfl⟩
end Go.Proofs.Ytjbmdfdgeioecaa.Am
/- The abstract machine, part 4: operations that leave the world alone. -/
namespace Go.Proofs.Ytjbmdfdgeioecaa.Am
set_option linter.unusedVariables false
set_option linter.unusedSimpArgs false
variable {P : Program}

theorem run_sizeOf {t : TypeId} {i : TypeInfo} (h : P.info? t = some i) (w : World) : (sizeOf t).run P w = .ok i.size w := by
  simp [sizeOf, typeInfo, h]
theorem run_isAgg {t : TypeId} {dsc : TypeDesc} (h : P.underlying t = some dsc) (w : World) : (isAgg t).run P w = .ok dsc.isRow w := by
  unfold isAgg
  rw [Sem.run_bind, run_underlying h w]
  cases dsc <;> simp_all

/-! ### load -/
/-- What an outer frame's cell gives here. -/
def AV.from (loc : Option Nat) (x : AV) : AV :=
  match loc with
  | none => x
  | some d => x.reloc d
theorem AR.from {G : Gh} {d : Nat} {loc : Option Nat} (hd : loc.getD d ≤ d) {x : AV} {v : Value} (r : AR G (loc.getD d) x v) : AR G d (x.from loc) v := by
  cases loc with
  | none => exact r
  | some k => exact AR.reloc (by simpa using hd) r
def selC (row : Bool) (size off : Nat) (cs : List AV) : Option AV :=
  if row then (if off + size ≤ cs.length then some (.agg ((cs.drop off).take size)) else none) else cs[off]?
def aload (P : Program) (st : St) (t : TypeId) (p : AV) : Option AV :=
  match P.underlying t, P.info? t with
  | some dsc, some i =>
    match p with
    | .ptr none s off => (okC (varAt st.mems st.d s)).bind fun cs =>
      if dsc.isRow then (if off + i.size ≤ cs.length then some (.agg ((cs.drop off).take i.size)) else none) else cs[off]?
    | .ptr (some d) s off => (okC (varAt st.mems d s)).bind fun cs =>
      if dsc.isRow then (if off + i.size ≤ cs.length then some (.agg (relocs d ((cs.drop off).take i.size))) else none) else (cs[off]?).map (AV.reloc d)
    | .rptr loc s ver off => (rwAt st.mems (loc.getD st.d) s).bind fun q => if q.1 = ver then selC dsc.isRow i.size off (q.2.2.map AV.pv) else none
    | .cptr _ e => if dsc.isRow then none else some e
    | .eptr cs => if dsc.isRow then (if i.size ≤ cs.length then some (.agg ((cs.take i.size).map .pv)) else none) else (cs[0]?).map .pv
    | _ => none
  | _, _ => none

theorem cell_of_block {w : World} {b o : Nat} {vs : Array Value} {e : TypeId} {f : Nat × Nat} (h : w.heap[b]? = some (.cells vs e f)) : w.cell? ⟨b, o, none⟩ = vs[o]? := by
  simp [World.cell?, h]

theorem run_loadAt_row {w : World} {b o : Nat} {t : TypeId} {dsc : TypeDesc} {i : TypeInfo} {cs : List Value} (hc : w.rangeAt b o cs)
    (hu : P.underlying t = some dsc) (hd : dsc.isRow = true) (hi : P.info? t = some i) (hl : i.size = cs.length) :
    (Instr.loadAt t (.pointer (some ⟨b, o, none⟩))).run P w = .ok (.agg cs.toArray) w :=
  run_loadAt_mid w b o t cs dsc hc hu hd (by simp [hi, hl])
theorem run_loadAt_cell {w : World} {b o : Nat} {t : TypeId} {dsc : TypeDesc} {v : Value} (hc : w.cell? ⟨b, o, none⟩ = some v)
    (hu : P.underlying t = some dsc) (hd : dsc.isRow = false) : (Instr.loadAt t (.pointer (some ⟨b, o, none⟩))).run P w = .ok v w := by
  simp only [Instr.loadAt, Instr.sureAddr, loadVar, Sem.run_bind, Sem.run_pure, Result.andThen_ok, run_isAgg hu, hd, Bool.false_eq_true, if_false, run_load, hc]

/-- What a variable's cells give. -/
theorem var_load {G : Gh} {w : World} {b off : Nat} {d : Nat} {cs : List AV} {vs : Array Value} {e : TypeId} (hb : w.heap[b]? = some (.cells vs e (0, 0))) (hr : ARs G d cs (vs.toList.take cs.length))
    {t : TypeId} {dsc : TypeDesc} {i : TypeInfo} (hu : P.underlying t = some dsc) (hi : P.info? t = some i) {y : AV}
    (h : (if dsc.isRow then (if off + i.size ≤ cs.length then some (AV.agg ((cs.drop off).take i.size)) else none) else cs[off]?) = some y) :
    ∃ v, (Instr.loadAt t (.pointer (some ⟨b, off, none⟩))).run P w = .ok v w ∧ AR G d y v := by
  by_cases hd : dsc.isRow = true
  · simp only [hd, if_true] at h
    split at h
    · rename_i hle
      simp only [Option.some.injEq] at h
      subst h
      have hlen := hr.length
      simp only [List.length_take] at hlen
      refine ⟨_, run_loadAt_row (cs := (vs.toList.drop off).take i.size) ?_ hu hd hi ?_, ?_⟩
      · intro j v hv
        rw [cell_of_block hb]
        rw [List.getElem?_take] at hv
        split at hv
        · rw [List.getElem?_drop] at hv
          simpa [Array.getElem?_toList] using hv
        · simp at hv
      · simp only [List.length_take, List.length_drop]; omega
      · simp only [AR]
        refine ⟨_, rfl, ?_⟩
        have h2 := (hr.drop off).take i.size
        rw [List.drop_take, List.take_take, Nat.min_eq_left (by omega)] at h2
        exact h2
    · simp at h
  · simp only [hd, Bool.false_eq_true, if_false] at h
    obtain ⟨v, hv, r⟩ := hr.get h
    refine ⟨v, run_loadAt_cell ?_ hu (by simpa using hd), r⟩
    rw [cell_of_block hb]
    rw [List.getElem?_take] at hv
    split at hv
    · simpa [Array.getElem?_toList] using hv
    · cases hv
theorem ARs.whole {G : Gh} {d : Nat} {cs : List AV} {vs : List Value} (h : ARs G d cs vs) : ARs G d cs (vs.take cs.length) := by
  rw [h.length, List.take_length]
  exact h
/-- A row's cells are the world's. -/
theorem PRs.ars {G : Gh} {d : Nat} {ps : List PV} {vs : List Value} (h : PRs G.M ps vs) : ARs G d (ps.map .pv) vs := by
  induction h with
  | nil => simp [ARs]
  | cons hp _ ih => simp only [List.map_cons, ARs]; exact ⟨_, _, rfl, by simp only [AR]; exact hp, ih⟩
theorem row_cells {G : Gh} {ow : Owner} {ms : List Mem} {w : World} (h : RM G ow ms w) {d s ver z b : Nat} {cs : List PV} {t : Tok} (hv : varAt ms d s = some [.mrw ver z cs]) (ht : G.ρ d s = some t) (he : ver = t.len → t.base = some ⟨b, 0, none⟩) (hne : cs ≠ []) :
    ∃ vs e, w.heap[b]? = some (.cells vs e (0, 0)) ∧ ow b = some (true, d, s) ∧ vs.size = t.cap * z ∧ cs.length ≤ t.cap * z ∧ PRs G.M cs (vs.toList.take cs.length) ∧ ∀ o, G.M b o = none := by
  obtain ⟨t', h1, h2, h3, h4, h5⟩ := h.row d s ver z cs hv
  rw [ht] at h1
  cases h1
  have hc : 0 < t.cap := by
    rcases Nat.eq_zero_or_pos t.cap with h0 | h0
    · rw [h0, Nat.zero_mul] at h4
      exact absurd (List.eq_nil_of_length_eq_zero (Nat.le_zero.mp h4)) hne
    · exact h0
  obtain ⟨b', vs, e, g1, g2, g3, g4, g5, g6⟩ := h5 hc
  rw [he h2.symm] at g1
  cases g1
  exact ⟨vs, e, g3, g2, g4, h4, g5, g6⟩

theorem load_sound {G : Gh} {ow : Owner} {st : St} {a : Act} {w : World} (h : Rel G ow st a w) {t : TypeId} {x : Operand} {y : AV}
    (e : aload P st t (st.eval x) = some y) : ∃ v, (Instr.loadAt t (a.eval x)).run P w = .ok v w ∧ AR G st.d y v := by
  have r := h.eval x
  unfold aload at e
  cases hu : P.underlying t with
  | none => simp [hu] at e
  | some dsc =>
  cases hi : P.info? t with
  | none => simp [hu, hi] at e
  | some i =>
  simp only [hu, hi] at e
  cases hx : st.eval x with
  | ptr loc s off =>
    rw [hx] at e r
    simp only [AR] at r
    obtain ⟨r0, b, hb, hv⟩ := r
    rw [hv]
    cases loc with
    | none =>
      simp only [Option.bind_eq_some_iff] at e
      obtain ⟨cs, hcs, e⟩ := e
      obtain ⟨hcs, hno, hnr⟩ := okC_some hcs
      obtain ⟨b', ob, hb', _, hh, hvr, _⟩ := h.mem.var _ _ _ hcs hnr
      obtain ⟨vs, el, rfl, hr⟩ := hvr.cells hno
      simp only [Option.getD_none] at hb
      rw [hb] at hb'
      cases hb'
      exact var_load hh hr.whole hu hi e
    | some d =>
      simp only [Option.bind_eq_some_iff] at e
      obtain ⟨cs, hcs, e⟩ := e
      obtain ⟨hcs, hno, hnr⟩ := okC_some hcs
      obtain ⟨b', ob, hb', _, hh, hvr, _⟩ := h.mem.var _ _ _ hcs hnr
      obtain ⟨vs, el, rfl, hr⟩ := hvr.cells hno
      simp only [Option.getD_some] at hb
      rw [hb] at hb'
      cases hb'
      by_cases hd : dsc.isRow = true
      · simp only [hd, if_true] at e
        split at e
        · rename_i hle
          simp only [Option.some.injEq] at e
          subst e
          obtain ⟨v, h1, h2⟩ := var_load (P := P) hh hr.whole hu hi (y := .agg ((cs.drop off).take i.size)) (off := off) (by simp [hd, hle])
          exact ⟨v, h1, by simpa only [AV.reloc] using AR.reloc (d' := st.d) (by simpa using r0) h2⟩
        · simp at e
      · simp only [hd, Bool.false_eq_true, if_false, Option.map_eq_some_iff] at e
        obtain ⟨y', hy', rfl⟩ := e
        obtain ⟨v, h1, h2⟩ := var_load (P := P) hh hr.whole hu hi (y := y') (off := off) (by simp [hd, hy'])
        exact ⟨v, h1, AR.reloc (by simpa using r0) h2⟩
  | eptr cs =>
    rw [hx] at e r
    simp only [AR] at r
    obtain ⟨b, o, hv, hr⟩ := r
    rw [hv]
    by_cases hd : dsc.isRow = true
    · simp only [hd, if_true] at e
      split at e
      · rename_i hle
        simp only [Option.some.injEq] at e
        subst e
        -- the cells, one by one
        have key : ∀ (n : Nat) (ds : List PV) (k : Nat), (∀ (j : Nat) (c : PV), ds[j]? = some c → ∃ u, G.M b (o + k + j) = some u ∧ PR G.M c u) → n = ds.length →
            ∃ us : List Value, us.length = n ∧ (∀ (j : Nat) (v : Value), us[j]? = some v → w.cell? ⟨b, o + k + j, none⟩ = some v) ∧ ARs G st.d (ds.map .pv) us := by
          intro n
          induction n with
          | zero =>
            intro ds k _ hn
            have : ds = [] := List.eq_nil_of_length_eq_zero hn.symm
            subst this
            exact ⟨[], rfl, by simp, by simp [ARs]⟩
          | succ n ih =>
            intro ds k hds hn
            cases ds with
            | nil => simp at hn
            | cons c ds =>
              obtain ⟨u, hu1, hu2⟩ := hds 0 c (by simp)
              obtain ⟨us, hl, hg, ha⟩ := ih ds (k + 1) (fun j c' hj => by
                have := hds (j + 1) c' (by simpa using hj)
                rwa [show o + k + (j + 1) = o + (k + 1) + j by omega] at this) (by simpa using hn)
              refine ⟨u :: us, by simp [hl], fun j v hj => ?_, ?_⟩
              · cases j with
                | zero => simp at hj; subst hj; exact h.mem.prot _ _ _ hu1
                | succ j =>
                  have := hg j v (by simpa using hj)
                  rwa [show o + (k + 1) + j = o + k + (j + 1) by omega] at this
              · simp only [List.map_cons, ARs]
                exact ⟨u, us, rfl, by simpa only [AR] using hu2, ha⟩
        obtain ⟨us, hl, hg, ha⟩ := key i.size (cs.take i.size) 0 (fun j c hj => by
          rw [List.getElem?_take] at hj
          split at hj
          · simpa using hr j c hj
          · simp at hj) (by simp only [List.length_take]; omega)
        refine ⟨_, run_loadAt_row (cs := us) (fun j v hv => by simpa using hg j v hv) hu hd hi hl.symm, ?_⟩
        simp only [AR]
        exact ⟨_, rfl, by simpa using ha⟩
      · simp at e
    · simp only [hd, Bool.false_eq_true, if_false, Option.map_eq_some_iff] at e
      obtain ⟨c, hc, rfl⟩ := e
      obtain ⟨u, hu1, hu2⟩ := hr 0 c hc
      refine ⟨u, run_loadAt_cell (h.mem.prot _ _ _ (by simpa using hu1)) hu (by simpa using hd), by simpa only [AR] using hu2⟩
  | pv p => rw [hx] at e; simp at e
  | full es => rw [hx] at e; simp at e
  | own loc s es => rw [hx] at e; simp at e
  | agg cs => rw [hx] at e; simp at e
  | tup cs => rw [hx] at e; simp at e
  | func f xs bs => rw [hx] at e; simp at e
  | mref loc s => rw [hx] at e; simp at e
  | ments ks xs => rw [hx] at e; simp at e
  | junk => rw [hx] at e; simp at e
  | row _ _ _ _ => rw [hx] at e; simp at e
  | prow _ => rw [hx] at e; simp at e
  | mrw _ _ _ => rw [hx] at e; simp at e
  | cptr qq q =>
    rw [hx] at e r
    simp only [AR] at r
    obtain ⟨b, u, hv, hu1, r1⟩ := r
    rw [hv]
    by_cases hd : dsc.isRow = true
    · simp [hd] at e
    · simp only [hd, Bool.false_eq_true, if_false, Option.some.injEq] at e
      subst e
      exact ⟨u, run_loadAt_cell (h.mem.prot _ _ _ hu1) hu (by simpa using hd), r1⟩
  | rptr loc s ver off =>
    rw [hx] at e r
    simp only [AR] at r
    obtain ⟨r0, tk, b, ht, hver, hv, hb⟩ := r
    rw [hv]
    simp only [Option.bind_eq_some_iff] at e
    obtain ⟨⟨v', z, cs⟩, hq, e⟩ := e
    simp only at e
    split at e
    · rename_i heq
      subst heq
      by_cases hne : cs = []
      · subst hne
        unfold selC at e
        split at e
        · rename_i hrow
          split at e
          · rename_i hle
            simp only [Option.some.injEq] at e
            subst e
            have h0 : i.size = 0 := by simp at hle; omega
            refine ⟨.agg #[], run_loadAt_row (cs := []) (fun j v hj => by simp at hj) hu hrow hi (by simp [h0]), ?_⟩
            simp only [AR]
            exact ⟨#[], rfl, by simp [ARs]⟩
          · cases e
        · simp at e
      · obtain ⟨vs, el, g1, _, _, _, g5, _⟩ := row_cells h.mem (rwAt_some hq) ht hb hne
        exact var_load (P := P) (d := st.d) (cs := cs.map AV.pv) g1 (by rw [List.length_map]; exact g5.ars) hu hi (y := y) (off := off) e
    · cases e

/-! ### addresses -/
def afield (P : Program) (t : TypeId) (p : AV) (f : Nat) : Option AV :=
  match P.underlying t with
  | some (.struct fields) =>
    match fields[f]? with
    | some fd => match P.info? fd.type with
      | some i => if i.size = 0 then none else match p with
        | .ptr loc s off => some (.ptr loc s (off + fd.offset))
        | .rptr loc s ver off => some (.rptr loc s ver (off + fd.offset))
        | .eptr cs => some (.eptr (cs.drop fd.offset))
        | _ => none
      | none => none
    | none => none
  | _ => none
theorem field_sound {G : Gh} {d : Nat} {t : TypeId} {p y : AV} {f : Nat} {v : Value} (w : World) (r : AR G d p v) (e : afield P t p f = some y) :
    ∃ u, (Instr.fieldAt t v f).run P w = .ok u w ∧ AR G d y u := by
  unfold afield at e
  cases hu : P.underlying t with
  | none => simp [hu] at e
  | some dsc =>
  cases dsc with
  | struct fields =>
    simp only [hu] at e
    cases hf : fields[f]? with
    | none => simp [hf] at e
    | some fd =>
    simp only [hf] at e
    cases hi : P.info? fd.type with
    | none => simp [hi] at e
    | some i =>
    simp only [hi] at e
    split at e
    · simp at e
    · rename_i hz
      cases p with
      | ptr loc s off =>
        simp only [Option.some.injEq] at e
        subst e
        simp only [AR] at r ⊢
        obtain ⟨r0, b, hb, rfl⟩ := r
        refine ⟨.pointer (some ⟨b, off + fd.offset, none⟩), ?_, ?_⟩
        · simp [Instr.fieldAt, Instr.sureAddr, run_underlying hu, hf, fieldPlace, run_sizeOf hi, hz, Addr.add_mid]
        · exact ⟨r0, b, hb, rfl⟩
      | rptr loc s ver off =>
        simp only [Option.some.injEq] at e
        subst e
        simp only [AR] at r ⊢
        obtain ⟨r0, tk, b, ht, hver, rfl, hb⟩ := r
        refine ⟨.pointer (some ⟨b, off + fd.offset, none⟩), ?_, r0, tk, b, ht, hver, rfl, hb⟩
        simp [Instr.fieldAt, Instr.sureAddr, run_underlying hu, hf, fieldPlace, run_sizeOf hi, hz, Addr.add_mid]
      | eptr cs =>
        simp only [Option.some.injEq] at e
        subst e
        simp only [AR] at r ⊢
        obtain ⟨b, o, rfl, r⟩ := r
        refine ⟨.pointer (some ⟨b, o + fd.offset, none⟩), ?_, b, o + fd.offset, rfl, fun j c hj => ?_⟩
        · simp [Instr.fieldAt, Instr.sureAddr, run_underlying hu, hf, fieldPlace, run_sizeOf hi, hz, Addr.add_mid]
        · rw [List.getElem?_drop] at hj
          have := r _ _ hj
          rwa [← Nat.add_assoc] at this
      | _ => simp at e
  | _ => simp [hu] at e

/-- An element's place. -/
def indexC (sz : Nat) (x : AV) (n : Int) : Option AV :=
  match x with
  | .row loc s ver len => if 0 ≤ n ∧ n < len then some (.rptr loc s ver (n.toNat * sz)) else none
  | .prow es => if 0 ≤ n ∧ sz = 1 then (es[n.toNat]?).map (.cptr n.toNat) else none
  | x => match x.slc? with
    | some es => if 0 ≤ n then match es[n.toNat]? with
        | some e => if e.cells.length = sz then some (.eptr e.cells) else none
        | none => none
      else none
    | none => none
def aindex (P : Program) (t : TypeId) (p i : AV) : Option AV :=
  match P.underlying t, i with
  | some (.slice el), .pv (.int _ n) => (P.info? el).bind fun inf => indexC inf.size p n
  | some (.array len el), .pv (.int _ n) =>
    match P.info? el, p with
    | some inf, .ptr loc s off => if 0 ≤ n ∧ n < len then some (.ptr loc s (off + n.toNat * inf.size)) else none
    | some inf, .eptr cs => if 0 ≤ n ∧ n < len then some (.eptr (cs.drop (n.toNat * inf.size))) else none
    | _, _ => none
  | _, _ => none
theorem index_slc {G : Gh} {d : Nat} {t el : TypeId} {inf : TypeInfo} {p y : AV} {k : IntKind} {n : Int} {v : Value} (w : World) (hu : P.underlying t = some (.slice el)) (hi : P.info? el = some inf) (r : AR G d p v) {es : List PV} (hs : p.slc? = some es)
    (e : (if 0 ≤ n then match es[n.toNat]? with
        | some e => if e.cells.length = inf.size then some (AV.eptr e.cells) else none
        | none => none
      else none) = some y) : ∃ z, (Instr.indexAt t v (.int k n)).run P w = .ok z w ∧ AR G d y z := by
  split at e
  · rename_i h0
    cases he : es[n.toNat]? with
    | none => simp [he] at e
    | some x =>
      simp only [he] at e
      split at e
      · rename_i hz
        simp only [Option.some.injEq] at e
        subst e
        have hp := AR.slc r hs
        have hlt : n.toNat < es.length := (List.getElem?_eq_some_iff.mp he).1
        cases hp with
        | nil => simp at he
        | slc b o cap sz _ f hc hz' hm hr =>
          have hsz : inf.size = sz := by rw [← hz]; exact hz' _ _ he
          refine ⟨.pointer (some ⟨b, o + n.toNat * inf.size, none⟩), ?_, ?_⟩
          · have h1 : n < (es.length : Int) := by omega
            simp [Instr.indexAt, asIntOf, run_underlying hu, h0, h1, run_sizeOf hi, Addr.add_mid]
          · simp only [AR]
            exact ⟨b, _, rfl, fun j c hj => ⟨f n.toNat j, by rw [hsz]; exact hm _ _ _ _ he hj, hr _ _ _ _ he hj⟩⟩
      · simp at e
  · simp at e
theorem index_sound {G : Gh} {d : Nat} {t : TypeId} {p i y : AV} {v u : Value} (w : World) (r : AR G d p v) (ri : AR G d i u) (e : aindex P t p i = some y) :
    ∃ z, (Instr.indexAt t v u).run P w = .ok z w ∧ AR G d y z := by
  unfold aindex at e
  cases hu : P.underlying t with
  | none => simp [hu] at e
  | some dsc =>
  cases i with
  | pv q =>
    cases q with
    | int k n =>
      simp only [AR] at ri
      cases ri
      cases dsc with
      | slice el =>
        simp only [hu, Option.bind_eq_some_iff] at e
        obtain ⟨inf, hi, e⟩ := e
        unfold indexC at e
        split at e
        · rename_i loc s ver len
          split at e
          · rename_i hn
            simp only [Option.some.injEq] at e
            subst e
            simp only [AR] at r ⊢
            obtain ⟨r0, tk, base, cap, ht, hver, rfl, hc, hb, he⟩ := r
            obtain ⟨b, rfl⟩ := hb (by omega)
            refine ⟨.pointer (some ⟨b, n.toNat * inf.size, none⟩), ?_, r0, tk, b, ht, hver, rfl, fun q => (he q).1.symm⟩
            simp [Instr.indexAt, asIntOf, run_underlying hu, hn.1, hn.2, run_sizeOf hi, Addr.add_mid]
          · cases e
        · rename_i es
          split at e
          · rename_i hn
            simp only [Option.map_eq_some_iff] at e
            obtain ⟨x, hx, rfl⟩ := e
            simp only [AR] at r ⊢
            obtain ⟨b, vs, rfl, r1, r2⟩ := r
            obtain ⟨u, hu1, hu2⟩ := r1.get hx
            have hlt := (List.getElem?_eq_some_iff.mp hx).1
            refine ⟨.pointer (some ⟨b, n.toNat, none⟩), ?_, b, u, rfl, r2 _ _ hu1, hu2⟩
            have h1 : n < (es.length : Int) := by omega
            simp [Instr.indexAt, asIntOf, run_underlying hu, hn.1, h1, run_sizeOf hi, Addr.add_mid, hn.2]
          · cases e
        · cases hs : p.slc? with
          | none => simp [hs] at e
          | some es =>
            simp only [hs] at e
            exact index_slc w hu hi r hs e
      | array len el =>
        simp only [hu] at e
        cases hi : P.info? el with
        | none => simp [hi] at e
        | some inf =>
        cases p with
        | ptr loc s off =>
          simp only [hi] at e
          split at e
          · rename_i hn
            simp only [Option.some.injEq] at e
            subst e
            simp only [AR] at r ⊢
            obtain ⟨r0, b, hb, rfl⟩ := r
            refine ⟨.pointer (some ⟨b, off + n.toNat * inf.size, none⟩), ?_, r0, b, hb, rfl⟩
            simp [Instr.indexAt, Instr.sureAddr, asIntOf, run_underlying hu, hn.1, hn.2, run_sizeOf hi, Addr.add_mid]
          · simp at e
        | eptr cs =>
          simp only [hi] at e
          split at e
          · rename_i hn
            simp only [Option.some.injEq] at e
            subst e
            simp only [AR] at r ⊢
            obtain ⟨b, o, rfl, r⟩ := r
            refine ⟨.pointer (some ⟨b, o + n.toNat * inf.size, none⟩), ?_, b, _, rfl, fun j c hj => ?_⟩
            · simp [Instr.indexAt, Instr.sureAddr, asIntOf, run_underlying hu, hn.1, hn.2, run_sizeOf hi, Addr.add_mid]
            · rw [List.getElem?_drop] at hj
              rw [Nat.add_assoc]
              exact r _ _ hj
          · simp at e
        | _ => simp [hi] at e
      | _ => simp [hu] at e
    | _ => cases dsc <;> simp [hu] at e
  | _ => cases dsc <;> simp [hu] at e
end Go.Proofs.Ytjbmdfdgeioecaa.Am
/- The abstract machine, part 5: arithmetic, comparisons, strings, parts of values. -/
namespace Go.Proofs.Ytjbmdfdgeioecaa.Am
set_option linter.unusedVariables false
set_option linter.unusedSimpArgs false
variable {P : Program}

/-! ### binary operations -/
def aeq1 : Option TypeDesc → PV → PV → Option Bool
  | some (.int _), .int k a, .int k' b => if k = k' then some (a == b) else none
  | some .bool, .bool a, .bool b => some (a == b)
  | some .string, .str a, .str b => some (a.toList == b.toList)
  | _, _, _ => none
/-- A struct's fields, each one cell, compared one by one. -/
def aeqs (P : Program) : List Field → List AV → List AV → Option Bool
  | [], [], [] => some true
  | f :: fs, .pv p :: xs, .pv q :: ys =>
    match aeq1 (P.underlying f.type) p q, aeqs P fs xs ys with
    | some b, some c => some (b && c)
    | _, _ => none
  | _, _, _ => none
def flatField (P : Program) (i : Nat) (f : Field) : Bool :=
  f.name != "_" && f.offset == i && (match P.underlying f.type with | some (.int _) | some .bool | some .string => true | _ => false)
def flatFields (P : Program) : Nat → List Field → Bool
  | _, [] => true
  | i, f :: fs => flatField P i f && flatFields P (i + 1) fs
def flatStruct (P : Program) (t : TypeId) : Bool :=
  flatFields P 0 (P.fieldsOf t).toList && !P.stoodInHeld t && !P.eqGuardType P.depth t
def aint (op : BinOp) (k : IntKind) (a b : Int) : Option AV :=
  match op with
  | .add => some (.pv (.int k (k.wrap (a + b))))
  | .sub => some (.pv (.int k (k.wrap (a - b))))
  | .mul => some (.pv (.int k (k.wrap (a * b))))
  | .quo => if b = 0 then none else some (.pv (.int k (k.wrap (a.tdiv b))))
  | .rem => if b = 0 then none else some (.pv (.int k (a.tmod b)))
  | .eql => some (.pv (.bool (a == b)))
  | .neq => some (.pv (.bool (a != b)))
  | .lss => some (.pv (.bool (a < b)))
  | .leq => some (.pv (.bool (a ≤ b)))
  | .gtr => some (.pv (.bool (a > b)))
  | .geq => some (.pv (.bool (a ≥ b)))
  | _ => none
def astr (op : BinOp) (x y : ByteArray) : Option AV :=
  match op with
  | .add => if x.size + y.size ≤ 9223372036854775807 then some (.pv (.str (x ++ y))) else none
  | .eql => some (.pv (.bool (x.toList == y.toList)))
  | .neq => some (.pv (.bool (!(x.toList == y.toList))))
  | .lss => some (.pv (.bool (Op.bytesLess x.toList y.toList)))
  | .leq => some (.pv (.bool (Op.bytesLess x.toList y.toList || x.toList == y.toList)))
  | .gtr => some (.pv (.bool !(Op.bytesLess x.toList y.toList || x.toList == y.toList)))
  | .geq => some (.pv (.bool !(Op.bytesLess x.toList y.toList)))
  | _ => none
def abin (P : Program) (op : BinOp) (t : TypeId) (x y : AV) : Option AV :=
  match x, y with
  | .pv (.int k a), .pv (.int k' b) => if k = k' then aint op k a b else none
  | .pv (.str a), .pv (.str b) => astr op a b
  | .pv (.bool a), .pv (.bool b) => match P.underlying t, op with
    | some .bool, .eql => some (.pv (.bool (a == b)))
    | some .bool, .neq => some (.pv (.bool (!(a == b))))
    | _, _ => none
  | .agg xs, .agg ys => match P.underlying t, op with
    | some (.struct fs), .eql => if flatStruct P t then (aeqs P fs.toList xs ys).map fun b => .pv (.bool b) else none
    | some (.struct fs), .neq => if flatStruct P t then (aeqs P fs.toList xs ys).map fun b => .pv (.bool (!b)) else none
    | _, _ => none
  | _, _ => none

theorem aint_sound {op : BinOp} {t : TypeId} {k : IntKind} {a b : Int} {y : AV} (w : World) (G : Gh) (d : Nat) (e : aint op k a b = some y) :
    ∃ v, (binOp op t (.int k a) (.int k b)).run P w = .ok v w ∧ AR G d y v := by
  cases op <;> simp only [aint, Option.some.injEq, reduceCtorEq] at e
  case quo =>
    split at e
    · simp at e
    · rename_i hb
      simp only [Option.some.injEq] at e
      subst e
      exact ⟨.int k (k.wrap (a.tdiv b)), by simp [binOp_quo, Op.intDiv, hb], by simp only [AR]; exact .int _ _⟩
  case rem =>
    split at e
    · simp at e
    · rename_i hb
      simp only [Option.some.injEq] at e
      subst e
      exact ⟨.int k (a.tmod b), by simp [binOp_rem, Op.intDiv, hb], by simp only [AR]; exact .int _ _⟩
  all_goals (subst e; refine ⟨_, by simp [binOp, Op.intArith, Op.intCmp]; rfl, ?_⟩; simp only [AR]; first | exact .int _ _ | exact .bool _)
theorem astr_sound {op : BinOp} {t : TypeId} {a b : ByteArray} {y : AV} (w : World) (G : Gh) (d : Nat) (e : astr op a b = some y) :
    ∃ v, (binOp op t (.string a) (.string b)).run P w = .ok v w ∧ AR G d y v := by
  cases op <;> simp only [astr, Option.some.injEq, reduceCtorEq] at e
  case add =>
    split at e
    · rename_i hb
      simp only [Option.some.injEq] at e
      subst e
      refine ⟨.string (a ++ b), ?_, by simp only [AR]; exact .str _⟩
      have : ¬ ((a.size + b.size : Nat) : Int) > IntKind.i64.max := by rw [IntKind.max_i64]; omega
      simp only [binOp, Op.stringOp, if_neg this]
      rfl
    · simp at e
  all_goals (subst e; refine ⟨_, by simp only [binOp, Op.stringOp]; rfl, ?_⟩; simp only [AR]; exact .bool _)

theorem aeqs_sound (w : World) {G : Gh} {d : Nat} {n : Nat} {vs us : Array Value} : ∀ (fs : List Field) (i : Nat) (xs ys : List AV) (b : Bool),
    flatFields P i fs = true → aeqs P fs xs ys = some b →
    ARs G d xs (vs.toList.drop i) → ARs G d ys (us.toList.drop i) → (Op.eqFields (n + 1) vs us fs).run P w = .ok b w
  | [], i, xs, ys, b, _, e, _, _ => by
    cases xs <;> cases ys <;> simp [aeqs] at e
    subst e
    simp [Op.eqFields]
  | f :: fs, i, xs, ys, b, hf, e, hx, hy => by
    simp only [flatFields, Bool.and_eq_true] at hf
    obtain ⟨hf1, hf2⟩ := hf
    cases xs with
    | nil => simp [aeqs] at e
    | cons x xs =>
    cases ys with
    | nil => cases x <;> simp [aeqs] at e
    | cons y ys =>
    cases x with
    | pv p =>
      cases y with
      | pv q =>
        simp only [aeqs] at e
        cases h1 : aeq1 (P.underlying f.type) p q with
        | none => simp [h1] at e
        | some c =>
        cases h2 : aeqs P fs xs ys with
        | none => simp [h1, h2] at e
        | some c2 =>
        simp only [h1, h2, Option.some.injEq] at e
        subst e
        simp only [ARs] at hx hy
        obtain ⟨v, vs', ev, hv, hx⟩ := hx
        obtain ⟨u, us', eu, hu, hy⟩ := hy
        have ev' : vs.toList.drop (i + 1) = vs' := by rw [← List.drop_drop, ev]; rfl
        have eu' : us.toList.drop (i + 1) = us' := by rw [← List.drop_drop, eu]; rfl
        have hvi : vs[i]? = some v := by
          have : (vs.toList.drop i)[0]? = some v := by rw [ev]; rfl
          rw [List.getElem?_drop] at this
          simpa using this
        have hui : us[i]? = some u := by
          have : (us.toList.drop i)[0]? = some u := by rw [eu]; rfl
          rw [List.getElem?_drop] at this
          simpa using this
        have ih := aeqs_sound w (n := n) fs (i + 1) xs ys c2 hf2 h2 (by rw [ev']; exact hx) (by rw [eu']; exact hy)
        simp only [flatField, Bool.and_eq_true, bne_iff_ne, ne_eq, beq_iff_eq] at hf1
        obtain ⟨⟨hn, ho⟩, ht⟩ := hf1
        have hrow : ∃ dsc, P.underlying f.type = some dsc ∧ dsc.isRow = false ∧ (Op.equalIn (n + 1) f.type v u).run P w = .ok c w := by
          simp only [AR] at hv hu
          cases hq : P.underlying f.type with
          | none => simp [hq] at ht
          | some dsc =>
            refine ⟨dsc, rfl, ?_, ?_⟩
            · cases dsc <;> simp_all
            · rw [hq] at h1
              cases dsc with
              | int k0 =>
                cases hv <;> cases hu <;> simp only [aeq1, reduceCtorEq] at h1
                split at h1
                · rename_i hk
                  subst hk
                  simp only [Option.some.injEq] at h1
                  subst h1
                  simp [Op.equalIn, run_underlying hq]
                · simp at h1
              | bool =>
                cases hv <;> cases hu <;> simp only [aeq1, Option.some.injEq, reduceCtorEq] at h1
                subst h1
                simp [Op.equalIn, run_underlying hq]
              | string =>
                cases hv <;> cases hu <;> simp only [aeq1, Option.some.injEq, reduceCtorEq] at h1
                subst h1
                exact run_equalIn_string w n f.type _ _ hq
              | _ => simp [aeq1] at h1
        obtain ⟨dsc, hq, hr, heq⟩ := hrow
        have pv : (part f.type vs f.offset).run P w = .ok v w := by
          simp [part, run_isAgg hq, hr, ho, hvi]
        have pu : (part f.type us f.offset).run P w = .ok u w := by
          simp [part, run_isAgg hq, hr, ho, hui]
        have hn' : f.name ≠ "_" := by simpa using hn
        rw [Op.eqFields]
        simp only [if_pos hn', Sem.run_bind, pv, pu, heq, Result.andThen_ok]
        cases c
        · simp
        · simpa using ih
      | _ => simp [aeqs] at e
    | _ => simp [aeqs] at e

theorem abin_sound {G : Gh} {d : Nat} {op : BinOp} {t : TypeId} {x y z : AV} {v u : Value} {p q : Operand} (w : World) (rx : AR G d x v) (ry : AR G d y u) (e : abin P op t x y = some z) :
    ∃ r, (do eqGuard op t p q v u; binOp op t v u : Sem Value).run P w = .ok r w ∧ AR G d z r := by
  unfold abin at e
  split at e
  · rename_i k a k' b
    simp only [AR] at rx ry
    cases rx; cases ry
    split at e
    · rename_i hk
      subst hk
      obtain ⟨r, h1, h2⟩ := aint_sound (P := P) (t := t) w G d e
      exact ⟨r, by rw [eqGuard_at_int]; simpa using h1, h2⟩
    · simp at e
  · simp only [AR] at rx ry
    cases rx; cases ry
    obtain ⟨r, h1, h2⟩ := astr_sound (P := P) (t := t) w G d e
    exact ⟨r, by rw [eqGuard_at_string]; simpa using h1, h2⟩
  · rename_i a b
    simp only [AR] at rx ry
    cases rx; cases ry
    split at e
    · rename_i hu
      simp only [Option.some.injEq] at e
      subst e
      exact ⟨.bool (a == b), by rw [eqGuard_at_bool]; simp [binOp, run_equal_bool w t a b hu], by simp only [AR]; exact .bool _⟩
    · rename_i hu
      simp only [Option.some.injEq] at e
      subst e
      exact ⟨.bool (!(a == b)), by rw [eqGuard_at_bool]; simp [binOp, run_equal_bool w t a b hu], by simp only [AR]; exact .bool _⟩
    · simp at e
  · rename_i xs ys
    simp only [AR] at rx ry
    obtain ⟨vs, rfl, rx⟩ := rx
    obtain ⟨us, rfl, ry⟩ := ry
    have key : ∀ (fs : Array Field) (b : Bool), P.underlying t = some (.struct fs) → flatStruct P t = true → aeqs P fs.toList xs ys = some b →
        (Op.equalIn 10000 t (.agg vs) (.agg us)).run P w = .ok b w ∧ (op = .eql ∨ op = .neq → (eqGuard op t p q (.agg vs) (.agg us)).run P w = .ok () w) := by
      intro fs b hu hf he
      simp only [flatStruct, Bool.and_eq_true, Bool.not_eq_true'] at hf
      obtain ⟨⟨h1, h2⟩, h3⟩ := hf
      have hfs : P.fieldsOf t = fs := by simp [Program.fieldsOf, hu]
      refine ⟨?_, ?_⟩
      · rw [run_equalIn_struct (P := P) w 9999 t vs us (by rw [hfs]; exact hu) h2, hfs]
        rw [hfs] at h1
        exact aeqs_sound w (n := 9998) fs.toList 0 xs ys b h1 he (by simpa using rx) (by simpa using ry)
      · rintro (rfl | rfl) <;> simp [eqGuard, h3]
    split at e
    · rename_i fs hu
      split at e
      · rename_i hf
        simp only [Option.map_eq_some_iff] at e
        obtain ⟨b, hb, rfl⟩ := e
        obtain ⟨h1, h2⟩ := key fs b hu hf hb
        refine ⟨.bool b, ?_, by simp only [AR]; exact .bool _⟩
        rw [Sem.run_bind, h2 (.inl rfl), Result.andThen_ok, run_eql_struct, h1]
        rfl
      · simp at e
    · rename_i fs hu
      split at e
      · rename_i hf
        simp only [Option.map_eq_some_iff] at e
        obtain ⟨b, hb, rfl⟩ := e
        obtain ⟨h1, h2⟩ := key fs b hu hf hb
        refine ⟨.bool (!b), ?_, by simp only [AR]; exact .bool _⟩
        rw [Sem.run_bind, h2 (.inr rfl), Result.andThen_ok, run_neq_struct, h1]
        rfl
      · simp at e
    · simp at e
  · simp at e

/-! ### unary operations -/
def aun (op : UnOp) (x : AV) : Option AV :=
  match op, x with
  | .neg, .pv (.int k n) => some (.pv (.int k (k.wrap (0 - n))))
  | .not, .pv (.bool b) => some (.pv (.bool (!b)))
  | _, _ => none
theorem aun_sound {G : Gh} {d : Nat} {op : UnOp} {x z : AV} {v : Value} (w : World) (rx : AR G d x v) (e : aun op x = some z) :
    ∃ r, (Op.unary op v).run P w = .ok r w ∧ AR G d z r := by
  unfold aun at e
  split at e
  · simp only [AR] at rx
    cases rx
    simp only [Option.some.injEq] at e
    subst e
    exact ⟨_, by simp only [Op.unary, Op.intArith, Sem.run_pure]; rfl, by simp only [AR]; exact .int _ _⟩
  · simp only [AR] at rx
    cases rx
    simp only [Option.some.injEq] at e
    subst e
    exact ⟨_, by simp [Op.unary]; rfl, by simp only [AR]; exact .bool _⟩
  · simp at e
end Go.Proofs.Ytjbmdfdgeioecaa.Am
/- The abstract machine, part 6: what changes the world: new blocks, variables' cells. -/
namespace Go.Proofs.Ytjbmdfdgeioecaa.Am
set_option linter.unusedVariables false
set_option linter.unusedSimpArgs false
variable {P : Program}

/-- A world whose heap is the same. -/
theorem RM.same_heap {G : Gh} {ow : Owner} {ms : List Mem} {w w' : World} (h : RM G ow ms w) (e : w'.heap = w.heap) : RM G ow ms w' := by
  refine ⟨fun b o v hm => ?_, fun d s cs hv hnr => ?_, fun d s n z ht => ?_, h.φsome, h.τsome, fun b x hb => by rw [e]; exact h.owlt b x hb, fun d s ver z cs hv => (h.row d s ver z cs hv).keep (Gh.le_refl G) rfl fun b hb _ => ⟨by rw [e], rfl, fun _ => rfl⟩, h.ρsome, h.glob⟩
  · rw [cell?_of_heap (w := w) (by rw [e])]; exact h.prot b o v hm
  · obtain ⟨b, ob, h1, h2, h3, h4⟩ := h.var d s cs hv hnr
    exact ⟨b, ob, h1, h2, by rw [e]; exact h3, h4⟩
  · obtain ⟨t, h1, h2, h3, h4, h5⟩ := h.tok d s n z ht
    refine ⟨t, h1, h2, h3, h4, fun hn => ?_⟩
    obtain ⟨b, vs, el, g1, g2, g3, g4⟩ := h5 hn
    exact ⟨b, vs, el, g1, g2, by rw [e]; exact g3, g4⟩
theorem Fr.same_heap {G : Gh} {ow : Owner} {w w' : World} (e : w'.heap = w.heap) (env : w'.os = w.os ∧ w'.tape = w.tape ∧ w'.output = w.output) : Fr G G ow ow w w' :=
  ⟨by rw [e]; exact Nat.le_refl _, fun b _ _ => by rw [e], fun _ _ _ _ => rfl, fun _ _ h => h, env⟩

/-- A new block. -/
def pushed (w : World) (o : Obj) : World := { w with heap := w.heap.push o }
theorem pushed_old {w : World} {o : Obj} {b : Nat} (h : b < w.heap.size) : (pushed w o).heap[b]? = w.heap[b]? := by
  simp only [pushed]
  rw [Array.getElem?_push]
  have : b ≠ w.heap.size := by omega
  simp [this]
theorem pushed_new {w : World} {o : Obj} : (pushed w o).heap[w.heap.size]? = some o := by
  simp only [pushed]
  rw [Array.getElem?_push, if_pos rfl]
theorem pushed_size {w : World} {o : Obj} : (pushed w o).heap.size = w.heap.size + 1 := by simp only [pushed]; exact Array.size_push _
theorem heap_lt {w : World} {b : Nat} {x : Obj} (h : w.heap[b]? = some x) : b < w.heap.size := (Array.getElem?_eq_some_iff.mp h).1

theorem RM.push {G : Gh} {ow : Owner} {ms : List Mem} {w : World} (h : RM G ow ms w) (o : Obj) : RM G ow ms (pushed w o) := by
  refine ⟨fun b f v hm => ?_, fun d s cs hv hnr => ?_, fun d s n z ht => ?_, h.φsome, h.τsome, fun b x hb => by rw [pushed_size]; exact Nat.lt_succ_of_lt (h.owlt b x hb), fun d s ver z cs hv => (h.row d s ver z cs hv).keep (Gh.le_refl G) rfl fun b hb _ => ⟨pushed_old hb, rfl, fun _ => rfl⟩, h.ρsome, h.glob⟩
  · rw [cell?_of_heap (w := w) (pushed_old (prot_lt h hm))]; exact h.prot b f v hm
  · obtain ⟨b, ob, h1, h2, h3, h4⟩ := h.var d s cs hv hnr
    exact ⟨b, ob, h1, h2, by rw [pushed_old (heap_lt h3)]; exact h3, h4⟩
  · obtain ⟨t, h1, h2, h3, h4, h5⟩ := h.tok d s n z ht
    refine ⟨t, h1, h2, h3, h4, fun hn => ?_⟩
    obtain ⟨b, vs, el, g1, g2, g3, g4⟩ := h5 hn
    exact ⟨b, vs, el, g1, g2, by rw [pushed_old (heap_lt g3)]; exact g3, g4⟩
theorem Fr.push {G : Gh} {ow : Owner} {w : World} (o : Obj) : Fr G G ow ow w (pushed w o) :=
  ⟨by rw [pushed_size]; exact Nat.le_succ _, fun b hb _ => pushed_old hb, fun _ _ _ _ => rfl, fun _ _ h => h, rfl, rfl, rfl⟩

/-- More cells of a block that nobody owns, or of the tail of an own row, come under protection. -/
def Gh.more (G : Gh) (N : Prot) : Gh := { G with M := fun b o => match G.M b o with | some v => some v | none => N b o }
theorem Gh.more_le (G : Gh) (N : Prot) : G.le (G.more N) :=
  ⟨fun b o v h => by simp [Gh.more, h], fun _ _ _ h => h, fun _ _ t h => ⟨t, h, t.le_refl⟩, fun _ _ t h => ⟨t, h, t.le_refl⟩⟩
/-- A new variable. -/
def Gh.var (G : Gh) (d s b : Nat) : Gh := { G with φ := fun d' s' => if d' = d ∧ s' = s then some b else G.φ d' s' }
def ownBy (ow : Owner) (b : Nat) (x : Bool × Nat × Nat) : Owner := fun b' => if b' = b then some x else ow b'

theorem Gh.var_le {G : Gh} {d s b : Nat} (h : G.φ d s = none) : G.le (G.var d s b) :=
  ⟨Prot.le_refl _, fun d' s' b' e => by
    simp only [Gh.var]
    split
    · rename_i hc
      obtain ⟨rfl, rfl⟩ := hc
      rw [h] at e; cases e
    · exact e, fun _ _ t h => ⟨t, h, t.le_refl⟩, fun _ _ t h => ⟨t, h, t.le_refl⟩⟩

theorem RM.newVar {G : Gh} {ow : Owner} {ms : List Mem} {w : World} (h : RM G ow ms w) {d s : Nat} {cs : List AV} {ob : Obj}
    (hd : (memAt ms d).isSome) (hn : varAt ms d s = none) (hr : VR G d cs ob) :
    RM (G.var d s w.heap.size) (ownBy ow w.heap.size (true, d, s)) (setVar ms d s cs) (pushed w ob) ∧ G.le (G.var d s w.heap.size) ∧
      Fr G (G.var d s w.heap.size) ow (ownBy ow w.heap.size (true, d, s)) w (pushed w ob) := by
  have hφ : G.φ d s = none := by
    cases hc : G.φ d s with
    | none => rfl
    | some b => have := h.φsome d s b hc; rw [hn] at this; simp at this
  have hle : G.le (G.var d s w.heap.size) := Gh.var_le hφ
  have h' := h.push ob
  have hnw := hr.notRw
  refine ⟨⟨h'.prot, fun d' s' cs' hv hnr => ?_, fun d' s' n z ht => ?_, fun d' s' b hb => ?_, fun d' s' t ht => ?_, fun b x hb => ?_, fun d' s' ver z cs' hv => ?_, fun d' s' t ht => ?_, h'.glob⟩, hle, ?_⟩
  · rw [varAt_setVar] at hv
    split at hv
    · rename_i hc
      obtain ⟨rfl, rfl, _⟩ := hc
      simp only [Option.some.injEq] at hv
      subst hv
      exact ⟨w.heap.size, ob, by simp [Gh.var], by simp [ownBy], pushed_new, hr.mono hle, h.fresh⟩
    · obtain ⟨b, ob', h1, h2, h3, h4, h5⟩ := h.var d' s' cs' hv hnr
      have hb := heap_lt h3
      refine ⟨b, ob', hle.φ _ _ _ h1, ?_, by rw [pushed_old hb]; exact h3, h4.mono hle, h5⟩
      have : b ≠ w.heap.size := by omega
      simp [ownBy, this, h2]
  · rw [tokAt_setVar] at ht
    obtain ⟨t, h1, h2, h3, h4, h5⟩ := h.tok d' s' n z ht
    refine ⟨t, h1, h2, h3, h4, fun hlt => ?_⟩
    obtain ⟨b, us, el, g1, g2, g3, g4⟩ := h5 hlt
    have hb := heap_lt g3
    have : b ≠ w.heap.size := by omega
    exact ⟨b, us, el, g1, by simp [ownBy, this, g2], by rw [pushed_old hb]; exact g3, g4⟩
  · simp only [Gh.var] at hb
    rw [varAt_setVar]
    split at hb
    · rename_i hc
      simp [hc.1, hc.2, hd]
    · split
      · rfl
      · exact h.φsome _ _ _ hb
  · rw [tokAt_setVar]; exact h.τsome _ _ _ ht
  · rw [pushed_size]
    simp only [ownBy] at hb
    split at hb
    · omega
    · have := h.owlt _ _ hb; omega
  · rw [varAt_setVar] at hv
    split at hv
    · simp only [Option.some.injEq] at hv
      exact absurd hv (notRw_ne hnw _ _ _)
    · exact (h.row d' s' ver z cs' hv).keep hle rfl fun b hb _ => ⟨pushed_old hb, by simp [ownBy, Nat.ne_of_lt hb], fun _ => rfl⟩
  · obtain ⟨z, cs', hz⟩ := h.ρsome d' s' t ht
    refine ⟨z, cs', ?_⟩
    rw [varAt_setVar, if_neg]
    · exact hz
    · rintro ⟨rfl, rfl, _⟩
      rw [hn] at hz
      cases hz
  · refine ⟨by rw [pushed_size]; omega, fun b hb _ => pushed_old hb, fun _ _ _ _ => rfl, fun b hb ho => ?_, rfl, rfl, rfl⟩
    have : b ≠ w.heap.size := by omega
    simp [ownBy, this, ho]

/-- A variable's block with other contents. -/
def putObj (w : World) (b : Nat) (ob : Obj) : World := { w with heap := w.heap.setIfInBounds b ob }
theorem putObj_hit {w : World} {b : Nat} {ob o : Obj} (h : w.heap[b]? = some o) : (putObj w b ob).heap[b]? = some ob := by
  have := heap_lt h
  simp [putObj, this]
theorem putObj_other {w : World} {b b' : Nat} {ob : Obj} (h : b' ≠ b) : (putObj w b ob).heap[b']? = w.heap[b']? := by
  simp [putObj, Array.getElem?_setIfInBounds, Ne.symm h]
theorem putObj_size {w : World} {b : Nat} {ob : Obj} : (putObj w b ob).heap.size = w.heap.size := by simp [putObj]
theorem setRow_putObj {w : World} {b : Nat} {vs vs' : Array Value} {e : TypeId} {f : Nat × Nat} (h : w.heap[b]? = some (.cells vs e f)) : w.setRow b vs' = putObj w b (.cells vs' e f) := by
  unfold World.setRow putObj
  congr 1
  apply Array.ext_getElem?
  intro i
  rw [Array.getElem?_modify, Array.getElem?_setIfInBounds]
  by_cases hi : b = i
  · subst hi
    have hg := (Array.getElem?_eq_some_iff.mp h).2
    simp [h, heap_lt h, hg]
  · simp [hi]
theorem RM.put {G : Gh} {ow : Owner} {ms : List Mem} {w : World} (h : RM G ow ms w) {d s : Nat} {cs cs' : List AV} {ob' : Obj} {b : Nat}
    (hv : varAt ms d s = some cs) (hnr : notRw cs = true) (hb : G.φ d s = some b) (hr : VR G d cs' ob') :
    RM G ow (setVar ms d s cs') (putObj w b ob') ∧ Fr G G ow ow w (putObj w b ob') := by
  obtain ⟨b0, ob, h1, h2, h3, h4, h5⟩ := h.var d s cs hv hnr
  rw [hb] at h1
  cases h1
  have hnw := hr.notRw
  refine ⟨⟨fun b' o v hm => ?_, fun d' s' cs2 hv' hnr' => ?_, fun d' s' n z ht => ?_, fun d' s' b' hb => ?_, fun d' s' t ht => ?_, fun b' x hb => ?_, fun d' s' ver z cs2 hv' => ?_, fun d' s' t ht => ?_, h.glob⟩, ?_⟩
  · have hne : b' ≠ b := fun e => by subst e; rw [h5] at hm; cases hm
    rw [cell?_of_heap (w := w) (putObj_other hne)]
    exact h.prot b' o v hm
  · rw [varAt_setVar] at hv'
    split at hv'
    · rename_i hc
      obtain ⟨rfl, rfl, _⟩ := hc
      simp only [Option.some.injEq] at hv'
      subst hv'
      exact ⟨b, ob', hb, h2, putObj_hit h3, hr, h5⟩
    · rename_i hc
      obtain ⟨b', us, g1, g2, g3, g4, g5⟩ := h.var d' s' cs2 hv' hnr'
      have hne : b' ≠ b := fun e => by
        subst e
        rw [h2] at g2
        simp only [Option.some.injEq, Prod.mk.injEq, true_and] at g2
        obtain ⟨rfl, rfl⟩ := g2
        apply hc
        refine ⟨rfl, rfl, ?_⟩
        cases hq : memAt ms d with
        | none => simp [varAt, hq] at hv
        | some m => rfl
      exact ⟨b', us, g1, g2, by rw [putObj_other hne]; exact g3, g4, g5⟩
  · rw [tokAt_setVar] at ht
    obtain ⟨t, g1, g2, g3, g4, g5⟩ := h.tok d' s' n z ht
    refine ⟨t, g1, g2, g3, g4, fun hlt => ?_⟩
    obtain ⟨b', us, el, k1, k2, k3, k4⟩ := g5 hlt
    have hne : b' ≠ b := fun e => by subst e; rw [h2] at k2; simp at k2
    exact ⟨b', us, el, k1, k2, by rw [putObj_other hne]; exact k3, k4⟩
  · rw [varAt_setVar]
    split
    · rfl
    · exact h.φsome _ _ _ hb
  · rw [tokAt_setVar]; exact h.τsome _ _ _ ht
  · rw [putObj_size]; exact h.owlt _ _ hb
  · rw [varAt_setVar] at hv'
    split at hv'
    · simp only [Option.some.injEq] at hv'
      exact absurd hv' (notRw_ne hnw _ _ _)
    · rename_i hc
      refine (h.row d' s' ver z cs2 hv').keep (Gh.le_refl G) rfl fun b' hb' ho => ⟨putObj_other fun e => ?_, rfl, fun _ => rfl⟩
      subst e
      rw [h2] at ho
      simp only [Option.some.injEq, Prod.mk.injEq, true_and] at ho
      obtain ⟨rfl, rfl⟩ := ho
      rw [hv] at hv'
      simp only [Option.some.injEq] at hv'
      exact notRw_ne hnr _ _ _ hv'
  · obtain ⟨z, cs2, hz⟩ := h.ρsome d' s' t ht
    refine ⟨z, cs2, ?_⟩
    rw [varAt_setVar, if_neg]
    · exact hz
    · rintro ⟨rfl, rfl, _⟩
      rw [hv] at hz
      simp only [Option.some.injEq] at hz
      exact notRw_ne hnr _ _ _ hz
  · refine ⟨by rw [putObj_size]; exact Nat.le_refl _, fun b' hb ho => ?_, fun _ _ _ _ => rfl, fun _ _ h => h, rfl, rfl, rfl⟩
    have hne : b' ≠ b := fun e => by subst e; rw [h2] at ho; cases ho
    exact putObj_other hne
/-- A store to a variable's cells. -/
theorem RM.store {G : Gh} {ow : Owner} {ms : List Mem} {w : World} (h : RM G ow ms w) {d s : Nat} {cs cs' : List AV} {vs' : Array Value} (hno : ∀ ks xs, cs ≠ [.ments ks xs]) (hnr : notRw cs = true)
    (hv : varAt ms d s = some cs) (hr : ARs G d cs' vs'.toList) :
    ∃ b vs e, G.φ d s = some b ∧ w.heap[b]? = some (.cells vs e (0, 0)) ∧ ARs G d cs vs.toList ∧
      RM G ow (setVar ms d s cs') (w.setRow b vs') ∧ Fr G G ow ow w (w.setRow b vs') := by
  obtain ⟨b, ob, h1, h2, h3, h4, h5⟩ := h.var d s cs hv hnr
  obtain ⟨vs, e, rfl, h6⟩ := h4.cells hno
  obtain ⟨k1, k2⟩ := h.put (ob' := .cells vs' e (0, 0)) hv hnr h1 (.inl ⟨vs', e, rfl, hr⟩)
  rw [← setRow_putObj h3] at k1 k2
  exact ⟨b, vs, e, h1, h3, h6, k1, k2⟩

/-- A new row that comes under protection whole. -/
def rowProt (b : Nat) (vs : Array Value) : Prot := fun b' o => if b' = b then vs[o]? else none
theorem RM.newRow {G : Gh} {ow : Owner} {ms : List Mem} {w : World} (h : RM G ow ms w) (vs : Array Value) (e : TypeId) (n : Nat) :
    RM (G.more (rowProt w.heap.size (vs.extract 0 n))) ow ms (pushed w (.cells vs e (0, 0))) ∧ Fr G (G.more (rowProt w.heap.size (vs.extract 0 n))) ow ow w (pushed w (.cells vs e (0, 0))) := by
  have h' := h.push (.cells vs e (0, 0))
  have hle := G.more_le (rowProt w.heap.size (vs.extract 0 n))
  have hold : ∀ b o, b < w.heap.size → (G.more (rowProt w.heap.size (vs.extract 0 n))).M b o = G.M b o := fun b o hb => by
    have : b ≠ w.heap.size := by omega
    simp only [Gh.more, rowProt, this, if_false]
    cases G.M b o <;> rfl
  refine ⟨⟨fun b o v hm => ?_, fun d s cs hv hnr => ?_, fun d s n z ht => ?_, h.φsome, h.τsome, h'.owlt, fun d s ver z cs hv => (h.row d s ver z cs hv).keep hle rfl fun b hb _ => ⟨pushed_old hb, rfl, fun o => hold b o hb⟩, h.ρsome, h.glob.mono hle.M⟩, ⟨by rw [pushed_size]; omega, fun b hb _ => pushed_old hb, fun b hb _ o => hold b o hb, fun _ _ h => h, rfl, rfl, rfl⟩⟩
  · simp only [Gh.more] at hm
    cases hq : G.M b o with
    | some u => rw [hq] at hm; simp only [Option.some.injEq] at hm; subst hm; exact h'.prot b o _ hq
    | none =>
      rw [hq] at hm
      simp only [rowProt] at hm
      split at hm
      · rename_i hb
        subst hb
        rw [cell_of_block pushed_new]
        rw [Array.getElem?_extract] at hm
        split at hm
        · simpa using hm
        · cases hm
      · cases hm
  · obtain ⟨b, ob, h1, h2, h3, h4, h5⟩ := h.var d s cs hv hnr
    have hb := heap_lt h3
    exact ⟨b, ob, h1, h2, by rw [pushed_old hb]; exact h3, h4.mono hle, fun o => by rw [hold b o hb]; exact h5 o⟩
  · obtain ⟨t, h1, h2, h3, h4, h5⟩ := h.tok d s n z ht
    refine ⟨t, h1, h2, h3, h4, fun hlt => ?_⟩
    obtain ⟨b, us, el, g1, g2, g3, g4, g5⟩ := h5 hlt
    have hb := heap_lt g3
    exact ⟨b, us, el, g1, g2, by rw [pushed_old hb]; exact g3, g4, fun o ho => by rw [hold b o hb]; exact g5 o ho⟩
end Go.Proofs.Ytjbmdfdgeioecaa.Am
/- The abstract machine, part 7: slices' cells side by side; append. -/
namespace Go.Proofs.Ytjbmdfdgeioecaa.Am
set_option linter.unusedVariables false
set_option linter.unusedSimpArgs false
variable {P : Program}

theorem flat_get {size : Nat} : ∀ {es : List PV} {i : Nat} {e : PV} {j : Nat} {c : PV}, (∀ e ∈ es, e.cells.length = size) → es[i]? = some e → e.cells[j]? = some c →
    (cellsOf es)[i * size + j]? = some c
  | [], i, e, j, c, _, h, _ => by simp at h
  | x :: es, i, e, j, c, hz, h, hj => by
    have hx := hz x (by simp)
    simp only [cellsOf, List.flatMap_cons]
    cases i with
    | zero =>
      simp at h
      subst h
      have hlt : j < x.cells.length := (List.getElem?_eq_some_iff.mp hj).1
      rw [Nat.zero_mul, Nat.zero_add, List.getElem?_append_left hlt]
      exact hj
    | succ i =>
      have ih := flat_get (es := es) (fun e m => hz e (List.mem_cons_of_mem _ m)) (by simpa using h) hj
      rw [List.getElem?_append_right (by rw [hx, Nat.succ_mul]; omega), hx, Nat.succ_mul, show i * size + size + j - size = i * size + j by omega]
      exact ih
theorem flat_find {size : Nat} : ∀ {es : List PV} {k : Nat} {c : PV}, (∀ e ∈ es, e.cells.length = size) → (cellsOf es)[k]? = some c →
    ∃ (i : Nat) (e : PV) (j : Nat), es[i]? = some e ∧ e.cells[j]? = some c ∧ k = i * size + j
  | [], k, c, _, h => by simp [cellsOf] at h
  | x :: es, k, c, hz, h => by
    have hx := hz x (by simp)
    simp only [cellsOf, List.flatMap_cons] at h
    by_cases hk : k < x.cells.length
    · rw [List.getElem?_append_left hk] at h
      exact ⟨0, x, k, by simp, h, by simp⟩
    · rw [List.getElem?_append_right (by omega)] at h
      obtain ⟨i, e, j, h1, h2, h3⟩ := flat_find (es := es) (fun e m => hz e (List.mem_cons_of_mem _ m)) h
      exact ⟨i + 1, e, j, by simpa using h1, h2, by rw [Nat.succ_mul]; omega⟩
theorem flat_length {size : Nat} : ∀ {es : List PV}, (∀ e ∈ es, e.cells.length = size) → (cellsOf es).length = es.length * size
  | [], _ => by simp [cellsOf]
  | x :: es, hz => by
    have hx := hz x (by simp)
    have ih := flat_length (es := es) (fun e m => hz e (by simp [m]))
    simp only [cellsOf] at ih
    simp only [cellsOf, List.flatMap_cons, List.length_append, ih, hx, List.length_cons, Nat.succ_mul]
    omega
theorem cellsOf_append (es fs : List PV) : cellsOf (es ++ fs) = cellsOf es ++ cellsOf fs := by simp [cellsOf]

theorem cells_values {M : Prot} {b : Nat} : ∀ (ps : List PV) (q : Nat), (∀ (j : Nat) (c : PV), ps[j]? = some c → ∃ u, M b (q + j) = some u ∧ PR M c u) →
    ∃ us : List Value, PRs M ps us ∧ ∀ (j : Nat) (u : Value), us[j]? = some u → M b (q + j) = some u
  | [], q, _ => ⟨[], .nil, by simp⟩
  | p :: ps, q, h => by
    obtain ⟨u, h1, h2⟩ := h 0 p (by simp)
    obtain ⟨us, h3, h4⟩ := cells_values ps (q + 1) (fun j c hj => by
      have := h (j + 1) c (by simpa using hj)
      rwa [show q + (j + 1) = q + 1 + j by omega] at this)
    refine ⟨u :: us, .cons h2 h3, fun j v hj => ?_⟩
    cases j with
    | zero => simp at hj; subst hj; exact h1
    | succ j =>
      have := h4 j v (by simpa using hj)
      rwa [show q + 1 + j = q + (j + 1) by omega] at this
theorem PR.of_flat {M : Prot} {size b o cap : Nat} {es : List PV} {us : List Value} (hz : ∀ e ∈ es, e.cells.length = size) (h : PRs M (cellsOf es) us)
    (hm : ∀ (j : Nat) (u : Value), us[j]? = some u → M b (o + j) = some u) (hc : es.length ≤ cap) : PR M (.slc es) (.slice (some ⟨b, o, none⟩) es.length cap) := by
  have key : ∀ (i : Nat) (e : PV) (j : Nat) (c : PV), es[i]? = some e → e.cells[j]? = some c → us[i * size + j]? = some (us.getD (i * size + j) undef) ∧ PR M c (us.getD (i * size + j) undef) := by
    intro i e j c h1 h2
    obtain ⟨v, hv, hr⟩ := h.get (flat_get hz h1 h2)
    rw [List.getD_eq_getElem?_getD, hv]
    exact ⟨rfl, hr⟩
  refine .slc b o cap size es (fun i j => us.getD (i * size + j) undef) hc (fun i e hi => hz e (List.mem_of_getElem? hi)) (fun i e j c h1 h2 => ?_) (fun i e j c h1 h2 => (key i e j c h1 h2).2)
  have := hm _ _ (key i e j c h1 h2).1
  rwa [← Nat.add_assoc] at this
/-- The cells of a slice's elements, as the model reads them. -/
theorem PR.flat {M : Prot} {size : Nat} {es : List PV} {v : Value} (h : PR M (.slc es) v) (hz : ∀ e ∈ es, e.cells.length = size) :
    ∃ us : List Value, PRs M (cellsOf es) us ∧ us.length = es.length * size ∧
      (∀ w : World, (∀ b o u, M b o = some u → w.cell? ⟨b, o, none⟩ = some u) → (Builtin.firstCells size es.length v).run P w = .ok us.toArray w) ∧
      ∀ b o l c, v = .slice (some ⟨b, o, none⟩) l c → ∀ (j : Nat) (u : Value), us[j]? = some u → M b (o + j) = some u := by
  cases h with
  | nil a c =>
    refine ⟨[], by simp [cellsOf]; exact .nil, by simp, fun w _ => ?_, fun b o l c e j u hj => by simp at hj⟩
    cases a with
    | none => simp [Builtin.firstCells]
    | some a => exact run_firstCells_some w size 0 _ _ _ [] (by simp) (fun j u hj => by simp at hj)
  | slc b o cap sz _ f hc hz' hm hr =>
    obtain ⟨us, h1, h2⟩ := cells_values (M := M) (b := b) (cellsOf es) o (fun k c hk => by
      obtain ⟨i, e, j, g1, g2, g3⟩ := flat_find hz hk
      have hs : size = sz := by rw [← hz e (List.mem_of_getElem? g1)]; exact hz' i e g1
      subst hs
      subst g3
      refine ⟨f i j, ?_, hr _ _ _ _ g1 g2⟩
      rw [← Nat.add_assoc]
      exact hm _ _ _ _ g1 g2)
    have hl : us.length = es.length * size := by rw [← h1.length, flat_length hz]
    refine ⟨us, h1, hl, fun w hw => ?_, fun b' o' l c e => ?_⟩
    · exact run_firstCells_some w size es.length _ _ _ us hl (fun j u hj => by rw [Addr.add_mid]; exact hw _ _ _ (h2 j u hj))
    · cases e
      exact h2

/-! ### append -/
/-- The sizes that an append takes: its element's; 'none' where it isn't one of slices. -/
def elemInfo (P : Program) (t : TypeId) : Option TypeInfo :=
  match P.underlying t with
  | some (.slice el) => P.info? el
  | _ => none
def fits (i : TypeInfo) (n : Nat) : Bool := decide (n * i.bytes ≤ 140737488355328) && decide (0 < i.bytes) && decide (0 < i.size) && (match i.zero with | some z => z.cells.size == i.size | none => false)
def sized (size : Nat) (es : List PV) : Bool := es.all fun e => e.cells.length == size
theorem sized_mem {size : Nat} {es : List PV} (h : sized size es = true) : ∀ e ∈ es, e.cells.length = size := by
  simpa [sized] using h

theorem grow_forced (need old : Nat) (el : TypeId) : (Question.appendCap need old el).forced = false := rfl
theorem grow_le (w : World) (need old : Nat) (el : TypeId) : need ≤ grownCap w need old el := by simp only [grownCap, Question.cut]; omega

/-- The append that finds no room. -/
theorem run_append_moved {t t' ty el : TypeId} {i : TypeInfo} {z : Value} {base : Option Addr} {n cap m : Nat} {x : Value} {w : World} {old new : List Value}
    (hu : P.underlying t = some (.slice el)) (hu' : P.underlying t' = some (.slice el)) (hi : P.info? el = some i) (hz : i.zero = some z) (hx : (Builtin.lenOf x).run P w = .ok m w)
    (hfit : (n + m) * i.bytes ≤ 140737488355328) (hb : 0 < i.bytes) (hfull : cap < n + m)
    (ho : ∀ w' : World, w'.heap = w.heap → (Builtin.firstCells i.size n (.slice base n cap)).run P w' = .ok old.toArray w')
    (hn : ∀ w' : World, w'.heap = w.heap → (Builtin.firstCells i.size m x).run P w' = .ok new.toArray w') :
    (Builtin.append_ #[t, t'] ty #[.slice base n cap, x]).run P w = .ok (.slice (some ⟨w.heap.size, 0, none⟩) (n + m) (grownCap w (n + m) cap el))
      (pushed { w with drawn := w.drawn + 1 } (.cells (old.toArray ++ new.toArray ++ Builtin.zeroCells z.cells (grownCap w (n + m) cap el - (n + m))) el (0, 0))) := by
  have h1 : ¬ (n + m ≤ cap) := by omega
  have h2 : ¬ (Builtin.nextslicecap (n + m) cap * i.bytes > 2 ^ 48) := by
    have := growslice_fits hfull hfit
    omega
  have h3 : ¬ i.bytes = 0 := by omega
  have hz' : (zeroValue el).run P { w with drawn := w.drawn + 1 } = .ok z { w with drawn := w.drawn + 1 } := by simp [zeroValue, typeInfo, hi, hz]
  have ho' := ho { w with drawn := w.drawn + 1 } rfl
  have hn' := hn { w with drawn := w.drawn + 1 } rfl
  have hs : ∀ w', (sizeOf el).run P w' = .ok i.size w' := run_sizeOf hi
  have ht : ∀ w', (typeInfo el).run P w' = .ok i w' := fun w' => by simp [typeInfo, hi]
  simp only [Builtin.append_, List.getElem?_toArray, List.getElem?_cons_zero, List.getElem?_cons_succ, Sem.run_bind, run_underlying hu, run_underlying hu', Result.andThen_ok, hs, Sem.run_pure, Bool.false_eq_true,
    if_false, hx, h1, ht, h3, h2, or_self, and_false, Sem.run_ite, run_choose, grow_forced, run_askRoom, Bool.not_false, if_true, ho', hn', hz']
  simp only [newRow, Sem.run_bind, run_newObj, Result.andThen_ok, Sem.run_pure]
  rfl
end Go.Proofs.Ytjbmdfdgeioecaa.Am
/- The abstract machine, part 8: append, abstractly. -/
namespace Go.Proofs.Ytjbmdfdgeioecaa.Am
set_option linter.unusedVariables false
set_option linter.unusedSimpArgs false
variable {P : Program}

/-- An append of nothing. -/
theorem run_append_none {t t' ty el : TypeId} {i : TypeInfo} {base : Option Addr} {n cap : Nat} {x : Value} {w : World}
    (hu : P.underlying t = some (.slice el)) (hu' : P.underlying t' = some (.slice el)) (hi : P.info? el = some i) (hx : (Builtin.lenOf x).run P w = .ok 0 w) (hc : n ≤ cap)
    (hn : (Builtin.firstCells i.size 0 x).run P w = .ok #[] w) :
    (Builtin.append_ #[t, t'] ty #[.slice base n cap, x]).run P w = .ok (.slice base n cap) w := by
  have hs : ∀ w', (sizeOf el).run P w' = .ok i.size w' := run_sizeOf hi
  cases base with
  | none => simp [Builtin.append_, run_underlying hu, run_underlying hu', hs, hx, hc, hn]
  | some a => simp [Builtin.append_, run_underlying hu, run_underlying hu', hs, hx, hc, hn, storeCells]
/-- An append in place. -/
theorem run_append_room {t t' ty el el' : TypeId} {i : TypeInfo} {b n cap m : Nat} {x : Value} {w : World} {new : List Value} {vs : Array Value}
    (hu : P.underlying t = some (.slice el)) (hu' : P.underlying t' = some (.slice el)) (hi : P.info? el = some i) (hx : (Builtin.lenOf x).run P w = .ok m w)
    (hroom : n + m ≤ cap) (hn : (Builtin.firstCells i.size m x).run P w = .ok new.toArray w) (hb : w.heap[b]? = some (.cells vs el' (0, 0)))
    (hl : n * i.size + new.length ≤ vs.size) (h1 : ∀ v ∈ new, v.oneCell' = true) :
    (Builtin.append_ #[t, t'] ty #[.slice (some ⟨b, 0, none⟩) n cap, x]).run P w = .ok (.slice (some ⟨b, 0, none⟩) (n + m) cap)
      (w.setRow b (vs.toList.take (n * i.size) ++ new ++ vs.toList.drop (n * i.size + new.length)).toArray) := by
  have hs : ∀ w', (sizeOf el).run P w' = .ok i.size w' := run_sizeOf hi
  have hst := run_storeCells_at P b (n * i.size) el' new 0 vs w hb (by simpa using hl) h1
  simp only [Nat.add_zero] at hst
  have ha : (⟨b, 0, none⟩ : Addr).add (n * i.size) = ⟨b, n * i.size, none⟩ := by rw [Addr.add_mid, Nat.zero_add]
  simp only [Builtin.append_, List.getElem?_toArray, List.getElem?_cons_zero, List.getElem?_cons_succ, Sem.run_bind, run_underlying hu, run_underlying hu', Result.andThen_ok, hs, Sem.run_pure, Bool.false_eq_true,
    if_false, hx, hroom, if_true, Bool.not_false, hn, ha, hst]

theorem run_lenOf {M : Prot} {es : List PV} {v : Value} (h : PR M (.slc es) v) (w : World) : (Builtin.lenOf v).run P w = .ok es.length w := by
  cases h <;> simp [Builtin.lenOf]

/-- A row's token, new or changed. -/
def Gh.tok (G : Gh) (d s : Nat) (t : Tok) : Gh := { G with τ := fun d' s' => if d' = d ∧ s' = s then some t else G.τ d' s' }
theorem Gh.tok_le {G : Gh} {d s : Nat} {t : Tok} (h : ∀ t0, G.τ d s = some t0 → t0.le t) : G.le (G.tok d s t) :=
  ⟨Prot.le_refl _, fun _ _ _ h => h, fun d' s' t' e => by
    simp only [Gh.tok]
    split
    · rename_i hc
      obtain ⟨rfl, rfl⟩ := hc
      exact ⟨t, rfl, h _ e⟩
    · exact ⟨t', e, t'.le_refl⟩, fun _ _ t h => ⟨t, h, t.le_refl⟩⟩

/-- The new token's place in the relation: all else stands. -/
theorem RM.setTok {G : Gh} {ow : Owner} {ms : List Mem} {w : World} (h : RM G ow ms w) {d s : Nat} {t : Tok} (hd : (memAt ms d).isSome)
    (h0 : t.len ≠ 0) (hc : t.len ≤ t.cap) (hb : t.len < t.cap → ∃ b vs e, t.base = some ⟨b, 0, none⟩ ∧ ow b = some (false, d, s) ∧ w.heap[b]? = some (.cells vs e (0, 0)) ∧ vs.size = t.cap * t.sz ∧ ∀ o, t.len * t.sz ≤ o → G.M b o = none)
    (hle : ∀ t0, G.τ d s = some t0 → t0.le t) : RM (G.tok d s t) ow (Am.setTok ms d s (t.len, t.sz)) w := by
  have hg : G.le (G.tok d s t) := Gh.tok_le hle
  refine ⟨h.prot, fun d' s' cs hv hnr => ?_, fun d' s' n z ht => ?_, fun d' s' b hb' => ?_, fun d' s' t' ht => ?_, h.owlt, fun d' s' ver z cs hv => ?_, fun d' s' t' ht => ?_, h.glob⟩
  · rw [varAt_setTok] at hv
    obtain ⟨b, ob, h1, h2, h3, h4, h5⟩ := h.var d' s' cs hv hnr
    exact ⟨b, ob, h1, h2, h3, h4.mono hg, h5⟩
  · rw [tokAt_setTok _ _ _ _ h0] at ht
    split at ht
    · rename_i hq
      obtain ⟨rfl, rfl, _⟩ := hq
      simp only [Option.some.injEq, Prod.mk.injEq] at ht
      obtain ⟨rfl, rfl⟩ := ht
      exact ⟨t, by simp [Gh.tok], rfl, rfl, hc, hb⟩
    · rename_i hq
      obtain ⟨t0, h1, h2, h3, h4, h5⟩ := h.tok d' s' n z ht
      refine ⟨t0, ?_, h2, h3, h4, h5⟩
      have : ¬ (d' = d ∧ s' = s) := fun e => hq ⟨e.1, e.2, hd⟩
      simp [Gh.tok, this, h1]
  · rw [varAt_setTok]; exact h.φsome _ _ _ hb'
  · rw [tokAt_setTok _ _ _ _ h0]
    simp only [Gh.tok] at ht
    split at ht
    · rename_i hq
      simp only [Option.some.injEq] at ht
      subst ht
      simp [hq.1, hq.2, hd]
    · rename_i hq
      obtain ⟨z, hz⟩ := h.τsome _ _ _ ht
      have : ¬ (d' = d ∧ s' = s ∧ (memAt ms d).isSome = true) := fun e => hq ⟨e.1, e.2.1⟩
      exact ⟨z, by simp [this, hz]⟩
  · rw [varAt_setTok] at hv
    exact (h.row d' s' ver z cs hv).keep hg rfl fun _ _ _ => ⟨rfl, rfl, fun _ => rfl⟩
  · rw [varAt_setTok]
    exact h.ρsome d' s' t' ht

/-- A new row, partly under protection, owned by a token. -/
theorem RM.newOwn {G : Gh} {ow : Owner} {ms : List Mem} {w : World} (h : RM G ow ms w) (vs : Array Value) (e : TypeId) (n : Nat) (x : Bool × Nat × Nat) :
    RM (G.more (rowProt w.heap.size (vs.extract 0 n))) (ownBy ow w.heap.size x) ms (pushed w (.cells vs e (0, 0))) ∧
      Fr G (G.more (rowProt w.heap.size (vs.extract 0 n))) ow (ownBy ow w.heap.size x) w (pushed w (.cells vs e (0, 0))) := by
  obtain ⟨h1, h2⟩ := h.newRow vs e n
  refine ⟨⟨h1.prot, fun d s cs hv hnr => ?_, fun d s n z ht => ?_, h1.φsome, h1.τsome, fun b y hb => ?_, fun d s ver z cs hv => ?_, h1.ρsome, h1.glob⟩, ⟨h2.size, h2.same, h2.M, fun b hb ho => ?_, h2.env⟩⟩
  · obtain ⟨b, ob, g1, g2, g3, g4⟩ := h1.var d s cs hv hnr
    have : b ≠ w.heap.size := by have := h.owlt _ _ g2; omega
    exact ⟨b, ob, g1, by simp [ownBy, this, g2], g3, g4⟩
  · obtain ⟨t, g1, g2, g3, g4, g5⟩ := h1.tok d s n z ht
    refine ⟨t, g1, g2, g3, g4, fun hlt => ?_⟩
    obtain ⟨b, us, el, k1, k2, k3⟩ := g5 hlt
    have : b ≠ w.heap.size := by have := h.owlt _ _ k2; omega
    exact ⟨b, us, el, k1, by simp [ownBy, this, k2], k3⟩
  · rw [pushed_size]
    simp only [ownBy] at hb
    split at hb
    · omega
    · have := h.owlt _ _ hb; omega
  · refine (h1.row d s ver z cs hv).keep (Gh.le_refl _) rfl fun b _ hb => ⟨rfl, ?_, fun _ => rfl⟩
    have := h.owlt _ _ hb
    simp [ownBy, Nat.ne_of_lt this]
  · have : b ≠ w.heap.size := by omega
    simp [ownBy, this, ho]

/-- What an append leaves behind: the row, and its token. -/
structure Appended (P : Program) (G : Gh) (ow : Owner) (ms : List Mem) (w : World) (d s n sz : Nat) (es : List PV) (v : Value) (w' : World) : Prop where
  ex : ∃ G' ow' t, G.le G' ∧ Fr G G' ow ow' w w' ∧ RM G' ow' (Am.setTok ms d s (n, sz)) w' ∧ PR G'.M (.slc es) v ∧ G'.τ d s = some t ∧ t.len = n ∧ t.sz = sz ∧ v = .slice t.base n t.cap

theorem append_moved {G : Gh} {ow : Owner} {ms : List Mem} {w : World} (h : RM G ow ms w) {t t' ty el : TypeId} {i : TypeInfo} {base : Option Addr} {cap d s : Nat} {x : Value} {es xs : List PV}
    (hu : P.underlying t = some (.slice el)) (hu' : P.underlying t' = some (.slice el)) (hi : P.info? el = some i)
    (hes : PR G.M (.slc es) (.slice base es.length cap)) (hxs : PR G.M (.slc xs) x) (hz : ∀ e ∈ es, e.cells.length = i.size) (hzx : ∀ e ∈ xs, e.cells.length = i.size)
    (hf : fits i (es.length + xs.length) = true) (hfull : cap < es.length + xs.length) (hd : (memAt ms d).isSome)
    (hle : ∀ t0, G.τ d s = some t0 → t0.len < es.length + xs.length ∧ t0.sz = i.size) :
    ∃ v w', (Builtin.append_ #[t, t'] ty #[.slice base es.length cap, x]).run P w = .ok v w' ∧ Appended P G ow ms w d s (es.length + xs.length) i.size (es ++ xs) v w' := by
  simp only [fits, Bool.and_eq_true, decide_eq_true_eq] at hf
  obtain ⟨⟨⟨hf1, hf2⟩, hf3⟩, hf4⟩ := hf
  obtain ⟨z, hz0, hzs⟩ : ∃ z, i.zero = some z ∧ z.cells.size = i.size := by
    cases hq : i.zero with
    | none => simp [hq] at hf4
    | some z => exact ⟨z, rfl, by simpa [hq] using hf4⟩
  obtain ⟨us, p1, p2, p3, _⟩ := hes.flat (P := P) hz
  obtain ⟨ns, q1, q2, q3, _⟩ := hxs.flat (P := P) hzx
  have hsame : ∀ w' : World, w'.heap = w.heap → ∀ b o u, G.M b o = some u → w'.cell? ⟨b, o, none⟩ = some u := fun w' e b o u hm => by
    rw [cell?_of_heap (w := w) (by rw [e])]; exact h.prot b o u hm
  have hrun := run_append_moved (P := P) (ty := ty) (old := us) (new := ns) hu hu' hi hz0 (run_lenOf hxs w) hf1 hf2 hfull (fun w' e => p3 w' (hsame w' e)) (fun w' e => q3 w' (hsame w' e))
  refine ⟨_, _, hrun, ?_⟩
  generalize hnc : grownCap w (es.length + xs.length) cap el = nc
  have hge : es.length + xs.length ≤ nc := by rw [← hnc]; exact grow_le w _ _ _
  have hw1 := (h.same_heap (w' := { w with drawn := w.drawn + 1 }) rfl)
  generalize hvs : us.toArray ++ ns.toArray ++ Builtin.zeroCells z.cells (nc - (es.length + xs.length)) = vs
  have hn : us.length + ns.length = (es.length + xs.length) * i.size := by rw [p2, q2, Nat.add_mul]
  have hvl : vs.toList = (us ++ ns) ++ (Builtin.zeroCells z.cells (nc - (es.length + xs.length))).toList := by
    rw [← hvs]; simp
  have hex : (vs.extract 0 (us.length + ns.length)).toList = us ++ ns := by
    rw [Array.toList_extract, hvl, List.extract_eq_take_drop, List.drop_zero, Nat.sub_zero]
    exact List.take_left' (by simp)
  have hsz : vs.size = nc * i.size := by
    have : vs.toList.length = nc * i.size := by
      rw [hvl]
      simp only [List.length_append, hn, Array.length_toList, Builtin.zeroCells, Array.size_map, Array.size_range, hzs]
      rw [← Nat.add_mul]
      congr 1
      omega
    simpa using this
  obtain ⟨r1, r2⟩ := hw1.newOwn vs el (us.length + ns.length) (false, d, s)
  simp only [] at r1 r2
  generalize hG1 : G.more (rowProt w.heap.size (vs.extract 0 (us.length + ns.length))) = G1 at r1 r2
  have hle1 : G.le G1 := by rw [← hG1]; exact G.more_le _
  have hprot : ∀ (j : Nat) (u : Value), (us ++ ns)[j]? = some u → G1.M w.heap.size j = some u := by
    intro j u hj
    rw [← hG1]
    have : (vs.extract 0 (us.length + ns.length))[j]? = some u := by rw [← Array.getElem?_toList, hex]; exact hj
    simp [Gh.more, h.fresh j, rowProt, this]
  have hfree : ∀ o, (es.length + xs.length) * i.size ≤ o → G1.M w.heap.size o = none := by
    intro o ho
    rw [← hG1]
    have : (vs.extract 0 (us.length + ns.length))[o]? = none := by
      rw [← Array.getElem?_toList, hex]
      simp
      omega
    simp [Gh.more, h.fresh o, rowProt, this]
  have hPR : PR G1.M (.slc (es ++ xs)) (.slice (some ⟨w.heap.size, 0, none⟩) (es.length + xs.length) nc) := by
    have := PR.of_flat (M := G1.M) (size := i.size) (b := w.heap.size) (o := 0) (cap := nc) (es := es ++ xs) (us := us ++ ns)
      (fun e he => by rcases List.mem_append.mp he with he | he; exact hz e he; exact hzx e he)
      (by rw [cellsOf_append]; exact (p1.mono hle1.M).append (q1.mono hle1.M)) (fun j u hj => by rw [Nat.zero_add]; exact hprot j u hj) (by simpa using hge)
    simpa using this
  have hτ : G1.τ = G.τ := by rw [← hG1]; rfl
  -- the zero cells: as many as are wanted, or the row is full
  have hr := r1.setTok (d := d) (s := s) (t := { base := some ⟨w.heap.size, 0, none⟩, cap := nc, sz := i.size, len := es.length + xs.length }) hd (by simp only; omega) hge
    (fun _ => ⟨w.heap.size, vs, el, rfl, by simp [ownBy], pushed_new, hsz, hfree⟩)
    (fun t0 ht0 => by
      rw [hτ] at ht0
      obtain ⟨g1, g2⟩ := hle t0 ht0
      exact ⟨Nat.le_of_lt g1, g2.symm, fun e => by simp only at e; omega⟩)
  have hle2 : G1.le (G1.tok d s { base := some ⟨w.heap.size, 0, none⟩, cap := nc, sz := i.size, len := es.length + xs.length }) := Gh.tok_le fun t0 ht0 => by
      rw [hτ] at ht0
      obtain ⟨g1, g2⟩ := hle t0 ht0
      exact ⟨Nat.le_of_lt g1, g2.symm, fun e => by simp only at e; omega⟩
  refine ⟨⟨G1.tok d s { base := some ⟨w.heap.size, 0, none⟩, cap := nc, sz := i.size, len := es.length + xs.length }, _,
    { base := some ⟨w.heap.size, 0, none⟩, cap := nc, sz := i.size, len := es.length + xs.length }, Gh.le_trans hle1 hle2, ⟨r2.size, r2.same, r2.M, r2.ow, r2.env⟩, hr, hPR, by simp [Gh.tok], rfl, rfl, rfl⟩⟩

theorem append_none {G : Gh} {ow : Owner} {ms : List Mem} {w : World} (h : RM G ow ms w) {t t' ty el : TypeId} {i : TypeInfo} {base : Option Addr} {cap d s : Nat} {x : Value} {es : List PV} {tk : Tok}
    (hu : P.underlying t = some (.slice el)) (hu' : P.underlying t' = some (.slice el)) (hi : P.info? el = some i)
    (hes : PR G.M (.slc es) (.slice base es.length cap)) (hxs : PR G.M (.slc []) x) (hd : (memAt ms d).isSome) (hne : es.length ≠ 0) (hc : es.length ≤ cap) (hbase : tk.base = base) (hcap : tk.cap = cap) (hlen : tk.len = es.length)
    (hb : tk.len < tk.cap → ∃ b vs e, tk.base = some ⟨b, 0, none⟩ ∧ ow b = some (false, d, s) ∧ w.heap[b]? = some (.cells vs e (0, 0)) ∧ vs.size = tk.cap * tk.sz ∧ ∀ o, tk.len * tk.sz ≤ o → G.M b o = none)
    (hle : ∀ t0, G.τ d s = some t0 → t0.le tk) :
    ∃ v w', (Builtin.append_ #[t, t'] ty #[.slice base es.length cap, x]).run P w = .ok v w' ∧ Appended P G ow ms w d s es.length tk.sz es v w' := by
  obtain ⟨ns, q1, q2, q3, _⟩ := hxs.flat (P := P) (size := i.size) (by simp)
  have hns : ns = [] := by simpa using q2
  subst hns
  refine ⟨_, _, run_append_none hu hu' hi (run_lenOf hxs w) hc (q3 w h.prot), ⟨G.tok d s tk, ow, tk, Gh.tok_le hle, ⟨Nat.le_refl _, fun _ _ _ => rfl, fun _ _ _ _ => rfl, fun _ _ h => h, rfl, rfl, rfl⟩, ?_, hes, by simp [Gh.tok], hlen, rfl, by rw [hbase, hcap]⟩⟩
  have := h.setTok (d := d) (s := s) (t := tk) hd (by omega) (by omega) hb hle
  rwa [hlen] at this

/-- The row's tail comes under protection. -/
def tailProt (b q : Nat) (us : List Value) : Prot := fun b' o => if b' = b ∧ q ≤ o then us[o - q]? else none

theorem append_room {G : Gh} {ow : Owner} {ms : List Mem} {w : World} (h : RM G ow ms w) {t t' ty el el' : TypeId} {i : TypeInfo} {b cap d s : Nat} {x : Value} {es xs : List PV} {vs : Array Value}
    (hu : P.underlying t = some (.slice el)) (hu' : P.underlying t' = some (.slice el)) (hi : P.info? el = some i)
    (hes : PR G.M (.slc es) (.slice (some ⟨b, 0, none⟩) es.length cap)) (hxs : PR G.M (.slc xs) x) (hz : ∀ e ∈ es, e.cells.length = i.size) (hzx : ∀ e ∈ xs, e.cells.length = i.size)
    (hroom : es.length + xs.length ≤ cap) (hd : (memAt ms d).isSome) (ho : ow b = some (false, d, s)) (hb : w.heap[b]? = some (.cells vs el' (0, 0))) (hsz : vs.size = cap * i.size)
    (hfree : ∀ o, es.length * i.size ≤ o → G.M b o = none)
    (hτ : G.τ d s = some { base := some ⟨b, 0, none⟩, cap := cap, sz := i.size, len := es.length }) (hpos : 0 < xs.length) :
    ∃ v w', (Builtin.append_ #[t, t'] ty #[.slice (some ⟨b, 0, none⟩) es.length cap, x]).run P w = .ok v w' ∧ Appended P G ow ms w d s (es.length + xs.length) i.size (es ++ xs) v w' := by
  obtain ⟨us, p1, p2, p3, p4⟩ := hes.flat (P := P) hz
  obtain ⟨ns, q1, q2, q3, _⟩ := hxs.flat (P := P) hzx
  have hfit : es.length * i.size + ns.length ≤ vs.size := by
    rw [q2, hsz, ← Nat.add_mul]
    exact Nat.mul_le_mul_right _ hroom
  have hrun := run_append_room (P := P) (ty := ty) (new := ns) hu hu' hi (run_lenOf hxs w) hroom (q3 w h.prot) hb hfit q1.one
  refine ⟨_, _, hrun, ?_⟩
  generalize hvs : (vs.toList.take (es.length * i.size) ++ ns ++ vs.toList.drop (es.length * i.size + ns.length)).toArray = vs'
  have hvl : vs'.toList = vs.toList.take (es.length * i.size) ++ ns ++ vs.toList.drop (es.length * i.size + ns.length) := by rw [← hvs]
  have htl : (vs.toList.take (es.length * i.size)).length = es.length * i.size := by simp; omega
  have hsz' : vs'.size = cap * i.size := by
    have : vs'.toList.length = cap * i.size := by rw [hvl, List.length_append, List.length_append, htl]; simp; omega
    simpa using this
  have hb' := setRow_heap w b vs vs' el' (0, 0) hb
  have hlow : ∀ o, o < es.length * i.size → vs'[o]? = vs[o]? := by
    intro o hlt
    rw [← Array.getElem?_toList, hvl, List.append_assoc, List.getElem?_append_left (by rw [htl]; exact hlt), List.getElem?_take, if_pos hlt, Array.getElem?_toList]
  have hmid : ∀ o, es.length * i.size ≤ o → o - es.length * i.size < ns.length → vs'[o]? = ns[o - es.length * i.size]? := by
    intro o h1 h2
    rw [← Array.getElem?_toList, hvl, List.append_assoc, List.getElem?_append_right (by rw [htl]; exact h1), htl, List.getElem?_append_left h2]
  generalize hG1 : G.more (tailProt b (es.length * i.size) ns) = G1
  have hle1 : G.le G1 := by rw [← hG1]; exact G.more_le _
  have hM1 : ∀ b' o, b' ≠ b → G1.M b' o = G.M b' o := by
    intro b' o hne
    rw [← hG1]
    simp only [Gh.more, tailProt, hne, false_and, if_false]
    cases G.M b' o <;> rfl
  have hMt : ∀ o u, ns[o]? = some u → G1.M b (es.length * i.size + o) = some u := by
    intro o u hu
    rw [← hG1]
    simp [Gh.more, tailProt, hfree, hu]
  have hMf : ∀ o, es.length * i.size + ns.length ≤ o → G1.M b o = none := by
    intro o hlo
    rw [← hG1]
    simp only [Gh.more, tailProt, hfree o (by omega), true_and]
    split
    · simp; omega
    · rfl
  have hPR : PR G1.M (.slc (es ++ xs)) (.slice (some ⟨b, 0, none⟩) (es.length + xs.length) cap) := by
    have := PR.of_flat (M := G1.M) (size := i.size) (b := b) (o := 0) (cap := cap) (es := es ++ xs) (us := us ++ ns)
      (fun e he => by rcases List.mem_append.mp he with he | he; exact hz e he; exact hzx e he)
      (by rw [cellsOf_append]; exact (p1.mono hle1.M).append (q1.mono hle1.M))
      (fun j u hj => by
        rw [Nat.zero_add]
        by_cases hlt : j < us.length
        · rw [List.getElem?_append_left hlt] at hj
          have := p4 b 0 _ _ rfl j u hj
          rw [Nat.zero_add] at this
          exact hle1.M _ _ _ this
        · rw [List.getElem?_append_right (by omega)] at hj
          have := hMt _ _ hj
          rwa [show es.length * i.size + (j - us.length) = j by omega] at this) (by simpa using hroom)
    simpa using this
  have hle2 : G1.le (G1.tok d s { base := some ⟨b, 0, none⟩, cap := cap, sz := i.size, len := es.length + xs.length }) := Gh.tok_le fun t0 ht0 => by
    have : G1.τ = G.τ := by rw [← hG1]; rfl
    rw [this, hτ] at ht0
    cases ht0
    exact ⟨Nat.le_add_right _ _, rfl, fun e => by simp only at e; omega⟩
  have hφ1 : G1.φ = G.φ := by rw [← hG1]; rfl
  have hτ1 : G1.τ = G.τ := by rw [← hG1]; rfl
  refine ⟨⟨G1.tok d s { base := some ⟨b, 0, none⟩, cap := cap, sz := i.size, len := es.length + xs.length }, ow,
    { base := some ⟨b, 0, none⟩, cap := cap, sz := i.size, len := es.length + xs.length }, Gh.le_trans hle1 hle2, ⟨by rw [setRow_size]; exact Nat.le_refl _, fun b' hb' ho' => ?_, fun b' hb' ho' o => ?_, fun _ _ h => h, rfl, rfl, rfl⟩, ?_, hPR, by simp [Gh.tok], rfl, rfl, rfl⟩⟩
  · exact setRow_other w b b' vs' (fun e => by subst e; rw [ho] at ho'; cases ho')
  · exact hM1 b' o (fun e => by subst e; rw [ho] at ho'; cases ho')
  have hρ1 : G1.ρ = G.ρ := by rw [← hG1]; rfl
  refine ⟨fun b' o v hm => ?_, fun d' s' cs hv hnr => ?_, fun d' s' n z ht => ?_, fun d' s' b' hb' => ?_, fun d' s' t' ht => ?_, fun b' y hb' => ?_, fun d' s' ver z cs hv => ?_, fun d' s' t' ht => ?_, (h.glob.mono hle1.M : GlOK G1)⟩
  · have hm' : G1.M b' o = some v := hm
    by_cases hbb : b' = b
    · subst hbb
      rw [cell_of_block hb']
      by_cases hlt : o < es.length * i.size
      · have : G.M b' o = some v := by
          rw [← hG1] at hm'
          simp only [Gh.more] at hm'
          cases hq : G.M b' o with
          | some u => rw [hq] at hm'; exact hm'
          | none =>
            rw [hq] at hm'
            simp only [tailProt, true_and] at hm'
            split at hm'
            · omega
            · cases hm'
        have hc := h.prot b' o v this
        rw [cell_of_block hb] at hc
        rw [hlow o hlt]
        exact hc
      · rw [← hG1] at hm'
        simp only [Gh.more, hfree o (by omega), tailProt, true_and] at hm'
        rw [if_pos (by omega)] at hm'
        have hlt2 : o - es.length * i.size < ns.length := (List.getElem?_eq_some_iff.mp hm').1
        rw [hmid o (by omega) hlt2]
        exact hm'
    · rw [cell?_of_heap (w := w) (setRow_other w b b' vs' hbb)]
      rw [hM1 b' o hbb] at hm'
      exact h.prot b' o v hm'
  · rw [varAt_setTok] at hv
    obtain ⟨b', ob', h1, h2, h3, h4, h5⟩ := h.var d' s' cs hv hnr
    have hbb : b' ≠ b := fun e => by subst e; rw [ho] at h2; simp at h2
    exact ⟨b', ob', by show G1.φ d' s' = some b'; rw [hφ1]; exact h1, h2, by rw [setRow_other w b b' vs' hbb]; exact h3, h4.mono (Gh.le_trans hle1 hle2), fun o => by show G1.M b' o = none; rw [hM1 b' o hbb]; exact h5 o⟩
  · rw [tokAt_setTok _ _ _ _ (by simp only; omega)] at ht
    split at ht
    · rename_i hq
      obtain ⟨rfl, rfl, _⟩ := hq
      simp only [Option.some.injEq, Prod.mk.injEq] at ht
      obtain ⟨rfl, rfl⟩ := ht
      exact ⟨_, by simp [Gh.tok]; rfl, rfl, rfl, hroom, fun _ => ⟨b, vs', el', rfl, ho, hb', hsz', fun o hlo => hMf o (by rw [q2, ← Nat.add_mul]; exact hlo)⟩⟩
    · rename_i hq
      obtain ⟨t0, h1, h2, h3, h4, h5⟩ := h.tok d' s' n z ht
      have hne : ¬ (d' = d ∧ s' = s) := fun e => hq ⟨e.1, e.2, hd⟩
      refine ⟨t0, by simp [Gh.tok, hne, hτ1, h1], h2, h3, h4, fun hlt => ?_⟩
      obtain ⟨b', us', e, k1, k2, k3, k4, k5⟩ := h5 hlt
      have hbb : b' ≠ b := fun e => by
        subst e
        rw [ho] at k2
        simp only [Option.some.injEq, Prod.mk.injEq, true_and] at k2
        exact hne ⟨k2.1.symm, k2.2.symm⟩
      exact ⟨b', us', e, k1, k2, by rw [setRow_other w b b' vs' hbb]; exact k3, k4, fun o hlo => by show G1.M b' o = none; rw [hM1 b' o hbb]; exact k5 o hlo⟩
  · rw [varAt_setTok]
    have : G1.φ d' s' = some b' := hb'
    rw [hφ1] at this
    exact h.φsome _ _ _ this
  · rw [tokAt_setTok _ _ _ _ (by simp only; omega)]
    simp only [Gh.tok] at ht
    split at ht
    · rename_i hq
      simp only [Option.some.injEq] at ht
      subst ht
      simp [hq.1, hq.2, hd]
    · rename_i hq
      rw [hτ1] at ht
      obtain ⟨z, hz⟩ := h.τsome _ _ _ ht
      have : ¬ (d' = d ∧ s' = s ∧ (memAt ms d).isSome = true) := fun e => hq ⟨e.1, e.2.1⟩
      exact ⟨z, by simp [this, hz]⟩
  · rw [setRow_size]; exact h.owlt _ _ hb'
  · rw [varAt_setTok] at hv
    refine (h.row d' s' ver z cs hv).keep (Gh.le_trans hle1 hle2) (congrFun (congrFun hρ1 d') s') fun b' _ hob => ?_
    have hbb : b' ≠ b := fun e => by subst e; rw [ho] at hob; simp at hob
    exact ⟨setRow_other w b b' vs' hbb, rfl, fun o => hM1 b' o hbb⟩
  · rw [varAt_setTok]
    have : G1.ρ d' s' = some t' := ht
    rw [hρ1] at this
    exact h.ρsome d' s' t' this
end Go.Proofs.Ytjbmdfdgeioecaa.Am
/- The abstract machine, part 8b: rows that may be written. -/
namespace Go.Proofs.Ytjbmdfdgeioecaa.Am
set_option linter.unusedVariables false
set_option linter.unusedSimpArgs false
variable {P : Program}

def Gh.rw (G : Gh) (d s : Nat) (t : Tok) : Gh := { G with ρ := fun d' s' => if d' = d ∧ s' = s then some t else G.ρ d' s' }
theorem Gh.rw_le {G : Gh} {d s : Nat} {t : Tok} (h : ∀ t0, G.ρ d s = some t0 → t0.le t) : G.le (G.rw d s t) :=
  ⟨Prot.le_refl _, fun _ _ _ h => h, fun _ _ t h => ⟨t, h, t.le_refl⟩, fun d' s' t' e => by
    simp only [Gh.rw]
    split
    · rename_i hc
      obtain ⟨rfl, rfl⟩ := hc
      exact ⟨t, rfl, h _ e⟩
    · exact ⟨t', e, t'.le_refl⟩⟩

/-- A row's new token and contents, in the same world. -/
theorem RM.setRw {G : Gh} {ow : Owner} {ms : List Mem} {w : World} (h : RM G ow ms w) {d s : Nat} {t : Tok} {cs : List PV} (hd : (memAt ms d).isSome) (hl : cs.length ≤ t.cap * t.sz)
    (hb : 0 < t.cap → ∃ b vs e, t.base = some ⟨b, 0, none⟩ ∧ ow b = some (true, d, s) ∧ w.heap[b]? = some (.cells vs e (0, 0)) ∧ vs.size = t.cap * t.sz ∧ PRs G.M cs (vs.toList.take cs.length) ∧ ∀ o, G.M b o = none)
    (hle : ∀ t0, G.ρ d s = some t0 → t0.le t) : RM (G.rw d s t) ow (setVar ms d s [.mrw t.len t.sz cs]) w := by
  have hg : G.le (G.rw d s t) := Gh.rw_le hle
  refine ⟨h.prot, fun d' s' cs' hv hnr => ?_, fun d' s' n z ht => ?_, fun d' s' b hb' => ?_, fun d' s' t' ht => ?_, h.owlt, fun d' s' ver z cs' hv => ?_, fun d' s' t' ht => ?_, h.glob⟩
  · rw [varAt_setVar] at hv
    split at hv
    · simp only [Option.some.injEq] at hv
      subst hv
      cases hnr
    · obtain ⟨b, ob, h1, h2, h3, h4, h5⟩ := h.var d' s' cs' hv hnr
      exact ⟨b, ob, h1, h2, h3, h4.mono hg, h5⟩
  · rw [tokAt_setVar] at ht
    exact h.tok d' s' n z ht
  · rw [varAt_setVar]
    split
    · rfl
    · exact h.φsome d' s' b hb'
  · rw [tokAt_setVar]; exact h.τsome d' s' t' ht
  · rw [varAt_setVar] at hv
    split at hv
    · rename_i hq
      obtain ⟨rfl, rfl, _⟩ := hq
      simp only [Option.some.injEq, List.cons.injEq, AV.mrw.injEq, and_true] at hv
      obtain ⟨rfl, rfl, rfl⟩ := hv
      refine ⟨t, by simp [Gh.rw], rfl, rfl, hl, fun hc => ?_⟩
      obtain ⟨b, vs, e, g1, g2, g3, g4, g5, g6⟩ := hb hc
      exact ⟨b, vs, e, g1, g2, g3, g4, g5.mono hg.M, g6⟩
    · rename_i hq
      have hne : ¬ (d' = d ∧ s' = s) := fun e => hq ⟨e.1, e.2, hd⟩
      exact (h.row d' s' ver z cs' hv).keep hg (by simp [Gh.rw, hne]) fun _ _ _ => ⟨rfl, rfl, fun _ => rfl⟩
  · rw [varAt_setVar]
    simp only [Gh.rw] at ht
    split at ht
    · rename_i hq
      simp only [Option.some.injEq] at ht
      subst ht
      exact ⟨t.sz, cs, by rw [if_pos ⟨hq.1, hq.2, hd⟩]⟩
    · rename_i hq
      obtain ⟨z, cs', hz⟩ := h.ρsome d' s' t' ht
      exact ⟨z, cs', by rw [if_neg (fun e => hq ⟨e.1, e.2.1⟩)]; exact hz⟩

theorem varAt_mem {ms : List Mem} {d s : Nat} {cs : List AV} (h : varAt ms d s = some cs) : (memAt ms d).isSome = true := by
  unfold varAt at h
  cases hm : memAt ms d with
  | none => simp [hm] at h
  | some m => rfl
theorem varAt_ltlen {ms : List Mem} {d s : Nat} {cs : List AV} (h : varAt ms d s = some cs) : d < ms.length := by
  unfold varAt at h
  cases hm : memAt ms d with
  | none => simp [hm] at h
  | some m => exact memAt_lt hm

/-- A row's block with other contents: the row's contents follow; its token is the same. -/
theorem RM.putRw {G : Gh} {ow : Owner} {ms : List Mem} {w : World} (h : RM G ow ms w) {d s ver z b : Nat} {cs cs' : List PV} {t : Tok} {vs vs' : Array Value} {e : TypeId}
    (hv : varAt ms d s = some [.mrw ver z cs]) (ht : G.ρ d s = some t) (hb : w.heap[b]? = some (.cells vs e (0, 0))) (ho : ow b = some (true, d, s)) (hbase : t.base = some ⟨b, 0, none⟩)
    (hM : ∀ o, G.M b o = none) (hsz : vs'.size = t.cap * z) (hl : cs'.length ≤ t.cap * z) (hr : PRs G.M cs' (vs'.toList.take cs'.length)) :
    RM G ow (setVar ms d s [.mrw ver z cs']) (w.setRow b vs') ∧ Fr G G ow ow w (w.setRow b vs') := by
  obtain ⟨t0, k1, k2, k3, k4, k5⟩ := h.row d s ver z cs hv
  rw [ht] at k1
  cases k1
  have hmem := varAt_mem hv
  have hoth : ∀ b', ow b' ≠ some (true, d, s) → (w.setRow b vs').heap[b']? = w.heap[b']? := fun b' hne => setRow_other w b b' vs' fun e => hne (e ▸ ho)
  refine ⟨⟨fun b' o v hm => ?_, fun d' s' cs2 hv' hnr => ?_, fun d' s' n z' ht' => ?_, fun d' s' b' hb' => ?_, fun d' s' t' ht' => ?_, fun b' x hb' => ?_, fun d' s' ver' z' cs2 hv' => ?_, fun d' s' t' ht' => ?_, h.glob⟩, ?_⟩
  · have hne : b' ≠ b := fun e => by subst e; rw [hM] at hm; cases hm
    rw [cell?_of_heap (w := w) (setRow_other w b b' vs' hne)]
    exact h.prot b' o v hm
  · rw [varAt_setVar] at hv'
    split at hv'
    · simp only [Option.some.injEq] at hv'
      subst hv'
      cases hnr
    · obtain ⟨b', us, g1, g2, g3, g4, g5⟩ := h.var d' s' cs2 hv' hnr
      refine ⟨b', us, g1, g2, ?_, g4, g5⟩
      rw [hoth b' fun e => ?_]
      · exact g3
      · rw [e] at g2
        simp only [Option.some.injEq, Prod.mk.injEq, true_and] at g2
        obtain ⟨rfl, rfl⟩ := g2
        rw [hv] at hv'
        simp only [Option.some.injEq] at hv'
        exact notRw_ne hnr _ _ _ hv'.symm
  · rw [tokAt_setVar] at ht'
    obtain ⟨t', g1, g2, g3, g4, g5⟩ := h.tok d' s' n z' ht'
    refine ⟨t', g1, g2, g3, g4, fun hlt => ?_⟩
    obtain ⟨b', us, el, q1, q2, q3, q4⟩ := g5 hlt
    exact ⟨b', us, el, q1, q2, by rw [hoth b' fun e => by rw [e] at q2; simp at q2]; exact q3, q4⟩
  · rw [varAt_setVar]
    split
    · rfl
    · exact h.φsome _ _ _ hb'
  · rw [tokAt_setVar]; exact h.τsome _ _ _ ht'
  · rw [setRow_size]; exact h.owlt _ _ hb'
  · rw [varAt_setVar] at hv'
    split at hv'
    · rename_i hq
      obtain ⟨rfl, rfl, _⟩ := hq
      simp only [Option.some.injEq, List.cons.injEq, AV.mrw.injEq, and_true] at hv'
      obtain ⟨rfl, rfl, rfl⟩ := hv'
      exact ⟨t, ht, k2, k3, hl, fun _ => ⟨b, vs', e, hbase, ho, setRow_heap w b vs vs' e (0, 0) hb, hsz, hr, hM⟩⟩
    · rename_i hq
      refine (h.row d' s' ver' z' cs2 hv').keep (Gh.le_refl G) rfl fun b' _ hob => ⟨hoth b' fun e => ?_, rfl, fun _ => rfl⟩
      rw [e] at hob
      simp only [Option.some.injEq, Prod.mk.injEq, true_and] at hob
      exact hq ⟨hob.1.symm, hob.2.symm, hmem⟩
  · rw [varAt_setVar]
    split
    · rename_i hq
      obtain ⟨rfl, rfl, _⟩ := hq
      rw [ht] at ht'
      cases ht'
      exact ⟨z, cs', by rw [k2]⟩
    · exact h.ρsome _ _ _ ht'
  · refine ⟨by rw [setRow_size]; exact Nat.le_refl _, fun b' hb' ho' => hoth b' fun e => (by rw [e] at ho'; cases ho'), fun _ _ _ _ => rfl, fun _ _ h => h, rfl, rfl, rfl⟩

/-! ### make -/
def zrow : Nat → List PV → List PV
  | 0, _ => []
  | n + 1, l => l ++ zrow n l
theorem zrow_length (n : Nat) (l : List PV) : (zrow n l).length = n * l.length := by
  induction n with
  | zero => simp [zrow]
  | succ n ih => simp only [zrow, List.length_append, ih]; rw [Nat.add_mul, Nat.one_mul, Nat.add_comm]
theorem zrow_get (l : List PV) : ∀ (n j : Nat), j < n * l.length → (zrow n l)[j]? = l[j % l.length]?
  | 0, j, h => by simp at h
  | n + 1, j, h => by
    have hpos : 0 < l.length := by
      rcases Nat.eq_zero_or_pos l.length with h0 | h0
      · rw [h0, Nat.mul_zero] at h; omega
      · exact h0
    simp only [zrow]
    by_cases hj : j < l.length
    · rw [List.getElem?_append_left hj, Nat.mod_eq_of_lt hj]
    · rw [List.getElem?_append_right (by omega), zrow_get l n (j - l.length) (by rw [Nat.add_mul, Nat.one_mul] at h; omega), Nat.mod_eq_sub_mod (by omega : l.length ≤ j)]
theorem PRs.of_get {M : Prot} : ∀ {ps : List PV} {vs : List Value}, ps.length = vs.length → (∀ (i : Nat) (p : PV) (v : Value), ps[i]? = some p → vs[i]? = some v → PR M p v) → PRs M ps vs
  | [], [], _, _ => .nil
  | [], _ :: _, h, _ => by simp at h
  | _ :: _, [], h, _ => by simp at h
  | p :: ps, v :: vs, h, g => .cons (g 0 p v (by simp) (by simp)) (PRs.of_get (by simpa using h) fun i x u h1 h2 => g (i + 1) x u (by simpa using h1) (by simpa using h2))
theorem zrow_prs {M : Prot} {zp : List PV} {zs : Array Value} (h : PRs M zp zs.toList) (n : Nat) : PRs M (zrow n zp) ((Array.range (n * zs.size)).map (zs[· % zs.size]!)).toList := by
  have hlen : zp.length = zs.size := by simpa using h.length
  refine PRs.of_get (by simp [zrow_length, hlen]) fun i x v hx hv => ?_
  have hlt : i < n * zs.size := by
    have := (List.getElem?_eq_some_iff.mp hx).1
    simpa [zrow_length, hlen] using this
  have hpos : 0 < zs.size := by
    rcases Nat.eq_zero_or_pos zs.size with h0 | h0
    · rw [h0, Nat.mul_zero] at hlt; omega
    · exact h0
  rw [zrow_get _ _ _ (by rw [hlen]; exact hlt), hlen] at hx
  have hm : i % zs.size < zs.size := Nat.mod_lt _ hpos
  obtain ⟨u, hu, hr⟩ := h.get hx
  rw [Array.getElem?_toList, Array.getElem?_eq_getElem hm] at hu
  simp only [Option.some.injEq] at hu
  subst hu
  rw [Array.getElem?_toList, Array.getElem?_map, Array.getElem?_range, if_pos hlt] at hv
  simp only [Option.map_some, Option.some.injEq] at hv
  subst hv
  rw [getElem!_pos zs (i % zs.size) hm]
  exact hr

/-- A new row of the frame's. -/
theorem RM.makeRw {G : Gh} {ow : Owner} {ms : List Mem} {w : World} (h : RM G ow ms w) {d s n z : Nat} {cs : List PV} {vs : Array Value} (e : TypeId) (hd : (memAt ms d).isSome) (hn : varAt ms d s = none)
    (hsz : vs.size = n * z) (hr : PRs G.M cs vs.toList) :
    ∃ G' ow', G.le G' ∧ Fr G G' ow ow' w (pushed w (.cells vs e (0, 0))) ∧ RM G' ow' (setVar ms d s [.mrw 0 z cs]) (pushed w (.cells vs e (0, 0))) ∧
      G'.ρ d s = some { base := some ⟨w.heap.size, 0, none⟩, cap := n, sz := z, len := 0 } := by
  have hρ : ∀ t0, G.ρ d s = some t0 → False := fun t0 ht => by
    obtain ⟨z, cs, hz⟩ := h.ρsome d s t0 ht
    rw [hn] at hz
    cases hz
  obtain ⟨r1, r2⟩ := h.newOwn vs e 0 (true, d, s)
  have hle1 : G.le (G.more (rowProt w.heap.size (vs.extract 0 0))) := G.more_le _
  have hM : ∀ o, (G.more (rowProt w.heap.size (vs.extract 0 0))).M w.heap.size o = none := fun o => by
    simp [Gh.more, h.fresh o, rowProt]
  have hlen : cs.length = vs.size := by simpa using hr.length
  have r3 := r1.setRw (d := d) (s := s) (t := { base := some ⟨w.heap.size, 0, none⟩, cap := n, sz := z, len := 0 }) (cs := cs) hd (by simp only; omega)
    (fun _ => ⟨w.heap.size, vs, e, rfl, by simp [ownBy], pushed_new, hsz, by rw [hr.length, List.take_length]; exact hr.mono hle1.M, hM⟩) (fun t0 ht => (hρ t0 ht).elim)
  exact ⟨_, _, Gh.le_trans hle1 (Gh.rw_le fun t0 ht => (hρ t0 ht).elim), ⟨r2.size, r2.same, r2.M, r2.ow, r2.env⟩, r3, by simp [Gh.rw]⟩

theorem setVar_setVar (ms : List Mem) (d s : Nat) (a b : List AV) : setVar (setVar ms d s a) d s b = setVar ms d s b := by
  unfold setVar
  have hset : ∀ (l : List (Nat × List AV)) (a b : List AV), setAt s b (setAt s a l) = setAt s b l := by
    intro l a b
    induction l with
    | nil => simp [setAt]
    | cons q l ih =>
      obtain ⟨s', c⟩ := q
      by_cases hq : s' = s
      · simp [setAt, hq]
      · simp [setAt, hq, ih]
  have hmod : ∀ (ms : List Mem) (f g : Mem → Mem), modMem f (modMem g ms d) d = modMem (fun m => f (g m)) ms d := by
    intro ms f g
    induction ms with
    | nil => rfl
    | cons m ms ih =>
      by_cases hq : d = ms.length
      · simp [modMem, hq]
      · simp [modMem, hq, modMem_length, ih]
  rw [hmod]
  congr 1
  funext m
  simp only [hset]
theorem varAt_set {ms : List Mem} {d s : Nat} {cs : List AV} (hd : (memAt ms d).isSome = true) : varAt (setVar ms d s cs) d s = some cs := by
  rw [varAt_setVar, if_pos ⟨rfl, rfl, hd⟩]

/-! ### append -/
theorem run_firstCells_base {w : World} {size n cap : Nat} {base : Option Addr} {us : List Value} (hl : us.length = n * size) (h : ∀ a, base = some a → ∀ (j : Nat) (u : Value), us[j]? = some u → w.cell? (a.add j) = some u) (h0 : base = none → us = []) :
    (Builtin.firstCells size n (.slice base n cap)).run P w = .ok us.toArray w := by
  cases base with
  | none => rw [h0 rfl]; simp [Builtin.firstCells]
  | some a => exact run_firstCells_some w size n a _ _ us hl (h a rfl)
theorem block_cells {w : World} {b : Nat} {vs : Array Value} {e : TypeId} (hb : w.heap[b]? = some (.cells vs e (0, 0))) {n j : Nat} {u : Value} (h : (vs.toList.take n)[j]? = some u) : w.cell? ((⟨b, 0, none⟩ : Addr).add j) = some u := by
  rw [Addr.add_mid, Nat.zero_add, cell_of_block hb]
  rw [List.getElem?_take] at h
  split at h
  · simpa using h
  · cases h

/-- An append to a row that may be written: some elements more, the next version. -/
theorem append_rw {G : Gh} {ow : Owner} {ms : List Mem} {w : World} (h : RM G ow ms w) {t t' ty el : TypeId} {i : TypeInfo} {d s ver n cap : Nat} {base : Option Addr} {x : Value} {cs : List PV} {xs : List PV} {tk : Tok}
    (hu : P.underlying t = some (.slice el)) (hu' : P.underlying t' = some (.slice el)) (hi : P.info? el = some i)
    (hv : varAt ms d s = some [.mrw ver i.size cs]) (ht : G.ρ d s = some tk) (hbase : base = tk.base) (hcap : cap = tk.cap) (hn : cs.length = n * i.size)
    (hxs : PR G.M (.slc xs) x) (hzx : ∀ e ∈ xs, e.cells.length = i.size) (hf : fits i (n + xs.length) = true) (hpos : 0 < xs.length) :
    ∃ v w' G' ow' tk', (Builtin.append_ #[t, t'] ty #[.slice base n cap, x]).run P w = .ok v w' ∧ G.le G' ∧ Fr G G' ow ow' w w' ∧ RM G' ow' (setVar ms d s [.mrw (ver + 1) i.size (cs ++ cellsOf xs)]) w' ∧
      G'.ρ d s = some tk' ∧ tk'.len = ver + 1 ∧ v = .slice tk'.base (n + xs.length) tk'.cap ∧ n + xs.length ≤ tk'.cap ∧ (0 < tk'.cap → ∃ b, tk'.base = some ⟨b, 0, none⟩) := by
  simp only [fits, Bool.and_eq_true, decide_eq_true_eq] at hf
  obtain ⟨⟨⟨hf1, hf2⟩, hf3⟩, hf4⟩ := hf
  obtain ⟨z, hz0, hzs⟩ : ∃ z, i.zero = some z ∧ z.cells.size = i.size := by
    cases hq : i.zero with
    | none => simp [hq] at hf4
    | some z => exact ⟨z, rfl, by simpa [hq] using hf4⟩
  obtain ⟨t0, k1, k2, k3, k4, k5⟩ := h.row d s ver i.size cs hv
  rw [ht] at k1
  cases k1
  obtain ⟨ns, q1, q2, q3, _⟩ := hxs.flat (P := P) hzx
  have hmem := varAt_mem hv
  have hncap : n ≤ tk.cap := by
    rw [hn] at k4
    exact Nat.le_of_mul_le_mul_right k4 hf3
  have hlx : (cellsOf xs).length = xs.length * i.size := flat_length hzx
  subst hbase
  subst hcap
  by_cases hroom : n + xs.length ≤ tk.cap
  · -- in place
    obtain ⟨b, vs, e, g1, g2, g3, g4, g5, g6⟩ := k5 (by omega)
    have hfit : n * i.size + ns.length ≤ vs.size := by
      rw [q2, g4, ← Nat.add_mul]
      exact Nat.mul_le_mul_right _ hroom
    rw [g1]
    have hrun := run_append_room (P := P) (ty := ty) (new := ns) hu hu' hi (run_lenOf hxs w) hroom (q3 w h.prot) g3 hfit q1.one
    generalize hvs : (vs.toList.take (n * i.size) ++ ns ++ vs.toList.drop (n * i.size + ns.length)).toArray = vs' at hrun
    have hvl : vs'.toList = vs.toList.take (n * i.size) ++ ns ++ vs.toList.drop (n * i.size + ns.length) := by rw [← hvs]
    have htl : (vs.toList.take (n * i.size)).length = n * i.size := by simp; omega
    have hsz' : vs'.size = tk.cap * i.size := by
      have : vs'.toList.length = tk.cap * i.size := by rw [hvl, List.length_append, List.length_append, htl]; simp; omega
      simpa using this
    have htk : vs'.toList.take cs.length = vs.toList.take cs.length := by
      rw [hvl, hn, List.append_assoc]
      exact List.take_left' htl
    obtain ⟨r1, r2⟩ := h.putRw (cs' := cs) (vs' := vs') hv ht g3 g2 g1 g6 hsz' k4 (by rw [htk]; exact g5)
    have hle : ∀ t0, G.ρ d s = some t0 → t0.le { base := tk.base, cap := tk.cap, sz := i.size, len := ver + 1 } := fun t0 h0 => by
      rw [ht] at h0
      cases h0
      exact ⟨by rw [k2]; exact Nat.le_succ _, k3.symm, fun q => by simp only [k2] at q; omega⟩
    have r3 := r1.setRw (d := d) (s := s) (t := { base := tk.base, cap := tk.cap, sz := i.size, len := ver + 1 }) (cs := cs ++ cellsOf xs)
      (by rw [show (memAt (setVar ms d s [.mrw ver i.size cs]) d).isSome = (memAt ms d).isSome by simp [setVar, memAt_modMem]]; exact hmem)
      (by
        simp only [List.length_append, hlx, hn, ← Nat.add_mul]
        exact Nat.mul_le_mul_right _ hroom)
      (fun _ => ⟨b, vs', e, g1, g2, setRow_heap w b vs vs' e (0, 0) g3, hsz', by
        have : vs'.toList.take (cs ++ cellsOf xs).length = vs.toList.take cs.length ++ ns := by
          rw [hvl]
          have h1 : (cs ++ cellsOf xs).length = (vs.toList.take (n * i.size) ++ ns).length := by
            simp only [List.length_append, hlx, htl, hn, q2]
          rw [h1, List.take_left' rfl, hn]
        rw [this]
        exact g5.append q1, g6⟩) hle
    rw [setVar_setVar] at r3
    exact ⟨_, _, _, ow, { base := tk.base, cap := tk.cap, sz := i.size, len := ver + 1 }, hrun, Gh.rw_le hle, ⟨r2.size, r2.same, r2.M, r2.ow, r2.env⟩, r3, by simp [Gh.rw], rfl, by rw [g1], hroom, fun _ => ⟨b, g1⟩⟩
  · -- moved
    have hold : ∃ us : List Value, us.length = n * i.size ∧ PRs G.M cs us ∧ ∀ w' : World, w'.heap = w.heap → (Builtin.firstCells i.size n (.slice tk.base n tk.cap)).run P w' = .ok us.toArray w' := by
      by_cases hc0 : 0 < tk.cap
      · obtain ⟨b, vs, e, g1, g2, g3, g4, g5, g6⟩ := k5 hc0
        refine ⟨vs.toList.take cs.length, ?_, g5, fun w' he => ?_⟩
        · rw [List.length_take, hn]
          have : n * i.size ≤ vs.toList.length := by simp only [Array.length_toList, g4]; exact Nat.mul_le_mul_right _ hncap
          omega
        · refine run_firstCells_base ?_ (fun a ha j u hj => ?_) (fun h0 => by rw [g1] at h0; cases h0)
          · rw [List.length_take, hn]
            have : n * i.size ≤ vs.toList.length := by simp only [Array.length_toList, g4]; exact Nat.mul_le_mul_right _ hncap
            omega
          · rw [g1] at ha
            cases ha
            exact block_cells (w := w') (by rw [he]; exact g3) hj
      · have hn0 : n = 0 := by omega
        subst hn0
        have hcs : cs = [] := List.eq_nil_of_length_eq_zero (by simpa using hn)
        subst hcs
        exact ⟨[], by simp, .nil, fun w' _ => run_firstCells_base (by simp) (fun a _ j u hj => by simp at hj) (fun _ => rfl)⟩
    obtain ⟨us, p2, p1, p3⟩ := hold
    have hsame : ∀ w' : World, w'.heap = w.heap → ∀ b o u, G.M b o = some u → w'.cell? ⟨b, o, none⟩ = some u := fun w' e b o u hm => by
      rw [cell?_of_heap (w := w) (by rw [e])]; exact h.prot b o u hm
    have hrun := run_append_moved (P := P) (ty := ty) (old := us) (new := ns) hu hu' hi hz0 (run_lenOf hxs w) hf1 hf2 (by omega) p3 (fun w' e => q3 w' (hsame w' e))
    generalize hnc : grownCap w (n + xs.length) tk.cap el = nc at hrun
    have hge : n + xs.length ≤ nc := by rw [← hnc]; exact grow_le w _ _ _
    have hw1 := (h.same_heap (w' := { w with drawn := w.drawn + 1 }) rfl)
    generalize hvs : us.toArray ++ ns.toArray ++ Builtin.zeroCells z.cells (nc - (n + xs.length)) = vs at hrun
    have hnl : us.length + ns.length = (n + xs.length) * i.size := by rw [p2, q2, Nat.add_mul]
    have hvl : vs.toList = (us ++ ns) ++ (Builtin.zeroCells z.cells (nc - (n + xs.length))).toList := by
      rw [← hvs]; simp
    have hsz : vs.size = nc * i.size := by
      have : vs.toList.length = nc * i.size := by
        rw [hvl]
        simp only [List.length_append, hnl, Array.length_toList, Builtin.zeroCells, Array.size_map, Array.size_range, hzs]
        rw [← Nat.add_mul]
        congr 1
        omega
      simpa using this
    obtain ⟨r1, r2⟩ := hw1.newOwn vs el 0 (true, d, s)
    simp only [] at r1 r2
    have hle1 : G.le (G.more (rowProt w.heap.size (vs.extract 0 0))) := G.more_le _
    have hM : ∀ o, (G.more (rowProt w.heap.size (vs.extract 0 0))).M w.heap.size o = none := fun o => by
      simp [Gh.more, h.fresh o, rowProt]
    have hle : ∀ t0, (G.more (rowProt w.heap.size (vs.extract 0 0))).ρ d s = some t0 → t0.le { base := some ⟨w.heap.size, 0, none⟩, cap := nc, sz := i.size, len := ver + 1 } := fun t0 h0 => by
      have h0' : G.ρ d s = some t0 := h0
      rw [ht] at h0'
      cases h0'
      exact ⟨by rw [k2]; exact Nat.le_succ _, k3.symm, fun q => by simp only [k2] at q; omega⟩
    have r3 := r1.setRw (d := d) (s := s) (t := { base := some ⟨w.heap.size, 0, none⟩, cap := nc, sz := i.size, len := ver + 1 }) (cs := cs ++ cellsOf xs) hmem
      (by
        simp only [List.length_append, hlx, hn, ← Nat.add_mul]
        exact Nat.mul_le_mul_right _ hge)
      (fun _ => ⟨w.heap.size, vs, el, rfl, by simp [ownBy], pushed_new, hsz, by
        have h1 : (cs ++ cellsOf xs).length = (us ++ ns).length := by
          simp only [List.length_append, hlx, hn, p2, q2]
        rw [hvl, h1, List.take_left' rfl]
        exact (p1.mono hle1.M).append (q1.mono hle1.M), hM⟩) hle
    exact ⟨_, _, _, _, { base := some ⟨w.heap.size, 0, none⟩, cap := nc, sz := i.size, len := ver + 1 }, hrun, Gh.le_trans hle1 (Gh.rw_le hle), ⟨r2.size, r2.same, r2.M, r2.ow, r2.env⟩, r3, by simp [Gh.rw], rfl, rfl, hge, fun _ => ⟨_, rfl⟩⟩
end Go.Proofs.Ytjbmdfdgeioecaa.Am
/- The abstract machine, part 9: parts of values, slices of slices, lengths, composite values. -/
namespace Go.Proofs.Ytjbmdfdgeioecaa.Am
set_option linter.unusedVariables false
set_option linter.unusedSimpArgs false
variable {P : Program}

/-! ### a struct value's field; a tuple's part -/
def afieldv (P : Program) (t : TypeId) (x : AV) (f : Nat) : Option AV :=
  match P.underlying t, x with
  | some (.struct fields), .agg cs =>
    match fields[f]? with
    | some fd => match P.underlying fd.type, P.info? fd.type with
      | some dsc, some i => if dsc.isRow then some (.agg ((cs.drop fd.offset).take i.size)) else cs[fd.offset]?
      | _, _ => none
    | none => none
  | _, _ => none
theorem fieldv_sound {G : Gh} {d : Nat} {t : TypeId} {x y : AV} {f : Nat} {v : Value} (w : World) (r : AR G d x v) (e : afieldv P t x f = some y) :
    ∃ u, (Instr.field t v f).run P w = .ok u w ∧ AR G d y u := by
  unfold afieldv at e
  cases hu : P.underlying t with
  | none => simp [hu] at e
  | some dsc =>
  cases dsc with
  | struct fields =>
    cases x with
    | agg cs =>
      simp only [hu] at e
      simp only [AR] at r
      obtain ⟨vs, rfl, r⟩ := r
      cases hf : fields[f]? with
      | none => simp [hf] at e
      | some fd =>
      simp only [hf] at e
      cases hu2 : P.underlying fd.type with
      | none => simp [hu2] at e
      | some dsc =>
      cases hi : P.info? fd.type with
      | none => simp [hu2, hi] at e
      | some i =>
      simp only [hu2, hi] at e
      by_cases hd : dsc.isRow = true
      · simp only [hd, if_true, Option.some.injEq] at e
        subst e
        refine ⟨.agg (vs.extract fd.offset (fd.offset + i.size)), ?_, ?_⟩
        · simp [Instr.field, run_underlying hu, hf, asAgg, part, run_isAgg hu2, hd, run_sizeOf hi]
        · simp only [AR]
          refine ⟨_, rfl, ?_⟩
          rw [Array.toList_extract, List.extract_eq_take_drop]
          have := (r.drop fd.offset).take i.size
          rwa [show fd.offset + i.size - fd.offset = i.size by omega]
      · simp only [hd, Bool.false_eq_true, if_false] at e
        obtain ⟨u, hu3, hr⟩ := r.get e
        have hu4 : vs[fd.offset]? = some u := by simpa [Array.getElem?_toList] using hu3
        refine ⟨u, ?_, hr⟩
        simp [Instr.field, run_underlying hu, hf, asAgg, part, run_isAgg hu2, hd, hu4]
    | _ => simp [hu] at e
  | _ => simp [hu] at e
def aextract (x : AV) (i : Nat) : Option AV :=
  match x with
  | .tup vs => vs[i]?
  | _ => none
theorem extract_sound {G : Gh} {d : Nat} {x y : AV} {i : Nat} {v : Value} (w : World) (r : AR G d x v) (e : aextract x i = some y) :
    ∃ u, (Instr.extract v i).run P w = .ok u w ∧ AR G d y u := by
  cases x with
  | tup cs =>
    simp only [aextract] at e
    simp only [AR] at r
    obtain ⟨vs, rfl, r⟩ := r
    obtain ⟨u, hu, hr⟩ := r.get e
    have hu' : vs[i]? = some u := by simpa [Array.getElem?_toList] using hu
    exact ⟨u, by simp [Instr.extract, hu'], hr⟩
  | _ => simp [aextract] at e

/-! ### slices of slices and of strings -/
def abound (x : Option AV) (dflt lim : Nat) : Option Nat :=
  match x with
  | none => some dflt
  | some (.pv (.int _ n)) => if 0 ≤ n ∧ n ≤ lim then some n.toNat else none
  | _ => none
def aslice (P : Program) (t : TypeId) (x : AV) (lo hi : Option AV) : Option AV :=
  match P.underlying t with
  | some .string =>
    match x with
    | .pv (.str s) => (abound hi s.size s.size).bind fun h => (abound lo 0 h).map fun l => .pv (.str (s.extract l h))
    | _ => none
  | some (.slice el) =>
    match P.info? el, x.slc? with
    | some i, some es => if sized i.size es then (abound hi es.length es.length).bind fun h => (abound lo 0 h).map fun l => .pv (.slc ((es.take h).drop l)) else none
    | _, _ => none
  | _ => none

theorem bound_sound {G : Gh} {d : Nat} {x : Option AV} {v : Option Value} {dflt lim lim' n : Nat} {c : BoundsCode} (w : World) (hl : lim ≤ lim')
    (r : match x, v with | some x, some v => AR G d x v | none, none => True | _, _ => False) (e : abound x dflt lim = some n) :
    match v with
    | some v => (Instr.sliceBound v lim' c).run P w = .ok n w ∧ n ≤ lim
    | none => n = dflt := by
  cases x with
  | none =>
    cases v with
    | none => simp only [abound, Option.some.injEq] at e; exact e.symm
    | some v => exact r.elim
  | some x =>
    cases v with
    | none => exact r.elim
    | some v =>
      simp only at r
      cases x with
      | pv p =>
        cases p with
        | int k m =>
          simp only [abound] at e
          split at e
          · rename_i hm
            simp only [Option.some.injEq] at e
            subst e
            simp only [AR] at r
            cases r
            have h1 : m ≤ (lim' : Int) := by omega
            refine ⟨?_, by omega⟩
            simp [Instr.sliceBound, asIntOf, hm.1, h1]
          · simp at e
        | _ => simp [abound] at e
      | _ => simp [abound] at e

theorem slice_sound {G : Gh} {d : Nat} {t : TypeId} {x y : AV} {lo hi : Option AV} {v : Value} {vlo vhi : Option Value} (w : World) (r : AR G d x v)
    (rlo : match lo, vlo with | some x, some v => AR G d x v | none, none => True | _, _ => False)
    (rhi : match hi, vhi with | some x, some v => AR G d x v | none, none => True | _, _ => False) (e : aslice P t x lo hi = some y) :
    ∃ u, (Instr.sliceAt t v vlo vhi none).run P w = .ok u w ∧ AR G d y u := by
  unfold aslice at e
  cases hu : P.underlying t with
  | none => simp [hu] at e
  | some dsc =>
  have bounds : ∀ (isSlice : Bool) (len cap h l : Nat), len ≤ cap → abound hi len len = some h → abound lo 0 h = some l →
      (Instr.sliceBounds isSlice len cap vlo vhi none).run P w = .ok (l, h, cap) w ∧ l ≤ h ∧ h ≤ len := by
    intro isSlice len cap h l hc e1 e2
    have b1 := bound_sound (P := P) (c := if isSlice then .sliceAcap else .sliceAlen) w hc rhi e1
    have b2 := bound_sound (P := P) (c := .sliceB) w (Nat.le_refl h) rlo e2
    cases vhi with
    | none =>
      simp only at b1
      subst b1
      cases vlo with
      | none =>
        simp only at b2
        subst b2
        exact ⟨by simp [Instr.sliceBounds], Nat.zero_le _, Nat.le_refl _⟩
      | some vl =>
        simp only at b2
        exact ⟨by simp [Instr.sliceBounds, b2.1], b2.2, Nat.le_refl _⟩
    | some vh =>
      simp only at b1
      cases vlo with
      | none =>
        simp only at b2
        subst b2
        exact ⟨by simp [Instr.sliceBounds, b1.1], Nat.zero_le _, b1.2⟩
      | some vl =>
        simp only at b2
        exact ⟨by simp [Instr.sliceBounds, b1.1, b2.1], b2.2, b1.2⟩
  cases dsc with
  | string =>
    simp only [hu] at e
    cases x with
    | pv p =>
      cases p with
      | str s =>
        simp only [Option.bind_eq_some_iff, Option.map_eq_some_iff] at e
        obtain ⟨h, e1, l, e2, rfl⟩ := e
        simp only [AR] at r
        cases r
        obtain ⟨b, _, _⟩ := bounds false s.size s.size h l (Nat.le_refl _) e1 e2
        exact ⟨.string (s.extract l h), by simp [Instr.sliceAt, Instr.slice, run_underlying hu, b], by simp only [AR]; exact .str _⟩
      | _ => simp at e
    | _ => simp at e
  | slice el =>
    simp only [hu] at e
    cases hi' : P.info? el with
    | none => simp [hi'] at e
    | some i =>
    cases hs : x.slc? with
    | none => simp [hi', hs] at e
    | some es =>
    simp only [hi', hs] at e
    split at e
    · rename_i hz
      have hz := sized_mem hz
      simp only [Option.bind_eq_some_iff, Option.map_eq_some_iff] at e
      obtain ⟨h, e1, l, e2, rfl⟩ := e
      have hp := AR.slc r hs
      cases hp with
      | nil a c =>
        obtain ⟨b, hlh, hh⟩ := bounds true 0 c h l (Nat.zero_le _) e1 e2
        have h0 : h = 0 := by omega
        have l0 : l = 0 := by omega
        subst h0; subst l0
        refine ⟨.slice (if c = 0 then a else a.map (·.add 0)) 0 c, ?_, by simp only [AR]; exact .nil _ _⟩
        simp [Instr.sliceAt, Instr.slice, run_underlying hu, b, run_sizeOf hi']
      | slc b o cap sz _ f hc hz' hm hr =>
        obtain ⟨bb, hlh, hh⟩ := bounds true es.length cap h l hc e1 e2
        have hlen : ((es.take h).drop l).length = h - l := by simp; omega
        by_cases hcl : cap = l
        · subst hcl
          refine ⟨.slice (some ⟨b, o, none⟩) (h - cap) (cap - cap), ?_, ?_⟩
          · simp [Instr.sliceAt, Instr.slice, run_underlying hu, bb, run_sizeOf hi']
          · simp only [AR]
            have hnil : (es.take h).drop cap = [] := List.eq_nil_of_length_eq_zero (by rw [hlen]; omega)
            have := PR.slc (M := G.M) b o (cap - cap) sz ((es.take h).drop cap) f (by rw [hlen]; omega) (by rw [hnil]; simp) (by rw [hnil]; simp) (by rw [hnil]; simp)
            rwa [hlen] at this
        · refine ⟨.slice (some ⟨b, o + l * i.size, none⟩) (h - l) (cap - l), ?_, ?_⟩
          · simp [Instr.sliceAt, Instr.slice, run_underlying hu, bb, run_sizeOf hi', hcl, Addr.add_mid]
          · simp only [AR]
            have hget : ∀ (k : Nat) (e : PV), ((es.take h).drop l)[k]? = some e → es[l + k]? = some e := by
              intro k e hk
              rw [List.getElem?_drop, List.getElem?_take] at hk
              split at hk
              · exact hk
              · cases hk
            have hsz : ∀ (k : Nat) (e : PV), ((es.take h).drop l)[k]? = some e → i.size = sz := fun k e hk => by
              rw [← hz e (List.mem_of_getElem? (hget k e hk))]; exact hz' _ _ (hget k e hk)
            have := PR.slc (M := G.M) b (o + l * i.size) (cap - l) i.size ((es.take h).drop l) (fun k j => f (l + k) j) (by rw [hlen]; omega)
              (fun k e hk => by rw [hsz k e hk]; exact hz' _ _ (hget k e hk))
              (fun k e j c hk hj => by
                have h1 := hm _ _ _ _ (hget k e hk) hj
                rw [Nat.add_mul, ← hsz k e hk] at h1
                rwa [show o + (l * i.size + k * i.size) + j = o + l * i.size + k * i.size + j by omega] at h1)
              (fun k e j c hk hj => hr _ _ _ _ (hget k e hk) hj)
            rwa [hlen] at this
    · simp at e
  | _ => simp [hu] at e

/-- The empty slice with no room: s[:0:0]. -/
def aslice3 (P : Program) (t : TypeId) (x : AV) (lo : Option AV) (hi mx : Option AV) : Option AV :=
  match P.underlying t with
  | some (.slice el) =>
    match P.info? el, x.slc?, lo, hi, mx with
    | some _, some _, none, some (.pv (.int _ 0)), some (.pv (.int _ 0)) => some (.full [])
    | _, _, _, _, _ => none
  | _ => none
theorem slice3_sound {G : Gh} {d : Nat} {t : TypeId} {x y : AV} {lo hi mx : Option AV} {v : Value} {vlo vhi vmx : Option Value} (w : World) (r : AR G d x v)
    (rlo : match lo, vlo with | some x, some v => AR G d x v | none, none => True | _, _ => False)
    (rhi : match hi, vhi with | some x, some v => AR G d x v | none, none => True | _, _ => False)
    (rmx : match mx, vmx with | some x, some v => AR G d x v | none, none => True | _, _ => False) (e : aslice3 P t x lo hi mx = some y) :
    ∃ u, (Instr.sliceAt t v vlo vhi vmx).run P w = .ok u w ∧ AR G d y u := by
  unfold aslice3 at e
  cases hu : P.underlying t with
  | none => simp [hu] at e
  | some dsc =>
  cases dsc with
  | slice el =>
    simp only [hu] at e
    split at e
    · rename_i i es k1 k2 hi hs
      simp only [Option.some.injEq] at e
      subst e
      obtain ⟨a, c, hv⟩ := (AR.slc r hs).slc_len
      subst hv
      cases vlo with
      | some _ => exact rlo.elim
      | none =>
      cases vhi with
      | none => exact rhi.elim
      | some vh =>
      cases vmx with
      | none => exact rmx.elim
      | some vm =>
      simp only [AR] at rhi rmx
      cases rhi
      cases rmx
      refine ⟨.slice a 0 0, ?_, ?_⟩
      · simp [Instr.sliceAt, run_underlying hu, Instr.slice, Instr.sliceBounds, Instr.sliceBound, asIntOf, run_sizeOf hi]
      · simp only [AR]
        exact ⟨.nil a 0, a, rfl⟩
    · cases e
  | _ => simp [hu] at e

/-! ### lengths -/
/-- A slice's length. -/
def lenC (x : AV) : Option AV :=
  match x with
  | .row _ _ _ n => some (.pv (.int .i64 n))
  | .prow es => some (.pv (.int .i64 es.length))
  | x => x.slc?.map fun es => .pv (.int .i64 es.length)
def alen (P : Program) (t : TypeId) (x : AV) : Option AV :=
  match P.underlying t with
  | some .string => match x with
    | .pv (.str s) => some (.pv (.int .i64 s.size))
    | _ => none
  | some (.slice _) => lenC x
  | _ => none
theorem len_sound {G : Gh} {d : Nat} {t ty : TypeId} {x y : AV} {v : Value} (w : World) (r : AR G d x v) (e : alen P t x = some y) :
    ∃ u, (Builtin.len_ #[t] ty #[v]).run P w = .ok u w ∧ AR G d y u := by
  unfold alen at e
  cases hu : P.underlying t with
  | none => simp [hu] at e
  | some dsc =>
  cases dsc with
  | string =>
    simp only [hu] at e
    cases x with
    | pv p =>
      cases p with
      | str s =>
        simp only [Option.some.injEq] at e
        subst e
        simp only [AR] at r
        cases r
        exact ⟨goInt s.size, by simp [Builtin.len_, run_underlying hu], by simp only [AR, goInt]; exact .int _ _⟩
      | _ => simp at e
    | _ => simp at e
  | slice el =>
    simp only [hu] at e
    unfold lenC at e
    split at e
    · rename_i loc s ver n
      simp only [Option.some.injEq] at e
      subst e
      simp only [AR] at r
      obtain ⟨_, _, _, _, _, _, rfl, _⟩ := r
      exact ⟨goInt n, by simp [Builtin.len_, run_underlying hu], by simp only [AR, goInt]; exact .int _ _⟩
    · rename_i es
      simp only [Option.some.injEq] at e
      subst e
      simp only [AR] at r
      obtain ⟨_, _, rfl, _⟩ := r
      exact ⟨goInt es.length, by simp [Builtin.len_, run_underlying hu], by simp only [AR, goInt]; exact .int _ _⟩
    · simp only [Option.map_eq_some_iff] at e
      obtain ⟨es, hs, rfl⟩ := e
      obtain ⟨a, c, hv⟩ := (AR.slc r hs).slc_len
      subst hv
      exact ⟨goInt es.length, by simp [Builtin.len_, run_underlying hu], by simp only [AR, goInt]; exact .int _ _⟩
  | _ => simp [hu] at e
def amin2 (x y : AV) : Option AV :=
  match x, y with
  | .pv (.int k a), .pv (.int _ b) => some (.pv (.int k (if b < a then b else a)))
  | _, _ => none
def amax2 (x y : AV) : Option AV :=
  match x, y with
  | .pv (.int k a), .pv (.int _ b) => some (.pv (.int k (if b > a then b else a)))
  | _, _ => none
theorem min_sound {G : Gh} {d : Nat} {ts : Array TypeId} {ty : TypeId} {x y z : AV} {v u : Value} (w : World) (r : AR G d x v) (r' : AR G d y u) (e : amin2 x y = some z) :
    ∃ q, (Builtin.min_ ts ty #[v, u]).run P w = .ok q w ∧ AR G d z q := by
  unfold amin2 at e
  split at e
  · simp only [AR] at r r'
    cases r; cases r'
    simp only [Option.some.injEq] at e
    subst e
    exact ⟨_, by simp only [Builtin.min_, List.foldlM_cons, List.foldlM_nil, Builtin.min2, Sem.run_bind, Sem.run_pure, Result.andThen_ok]; rfl, by simp only [AR]; exact .int _ _⟩
  · simp at e
theorem max_sound {G : Gh} {d : Nat} {ts : Array TypeId} {ty : TypeId} {x y z : AV} {v u : Value} (w : World) (r : AR G d x v) (r' : AR G d y u) (e : amax2 x y = some z) :
    ∃ q, (Builtin.max_ ts ty #[v, u]).run P w = .ok q w ∧ AR G d z q := by
  unfold amax2 at e
  split at e
  · simp only [AR] at r r'
    cases r; cases r'
    simp only [Option.some.injEq] at e
    subst e
    exact ⟨_, by simp only [Builtin.max_, List.foldlM_cons, List.foldlM_nil, Builtin.max2, Sem.run_bind, Sem.run_pure, Result.andThen_ok]; rfl, by simp only [AR]; exact .int _ _⟩
  · simp at e
end Go.Proofs.Ytjbmdfdgeioecaa.Am
/- The abstract machine, part 10: composite values. -/
namespace Go.Proofs.Ytjbmdfdgeioecaa.Am
set_option linter.unusedVariables false
set_option linter.unusedSimpArgs false
variable {P : Program}

def ofVal : Value → AV
  | .int k n => .pv (.int k n)
  | .bool b => .pv (.bool b)
  | .string s => .pv (.str s)
  | .slice none 0 0 => .full []
  | _ => .junk
theorem ofVal_sound (G : Gh) (d : Nat) (v : Value) : AR G d (ofVal v) v := by
  unfold ofVal
  split <;> simp only [AR]
  · exact .int _ _
  · exact .bool _
  · exact .str _
  · exact ⟨.nil none 0, none, rfl⟩
theorem ofVals_sound (G : Gh) (d : Nat) : ∀ vs : List Value, ARs G d (vs.map ofVal) vs
  | [] => by simp [ARs]
  | v :: vs => by simp only [List.map_cons, ARs]; exact ⟨v, vs, rfl, ofVal_sound G d v, ofVals_sound G d vs⟩

def splice (cs : List AV) (off : Nat) (vs : List AV) : List AV := cs.take off ++ vs ++ cs.drop (off + vs.length)
def AV.isJunk : AV → Bool
  | .junk => true
  | _ => false
def afill (place : Nat → Option (Nat × Nat)) (cs : List AV) : List (Nat × AV) → Option (List AV)
  | [] => some cs
  | (i, v) :: rest =>
    match place i with
    | none => none
    | some (off, size) =>
      if v.isJunk = false ∧ v.cells.length = size ∧ off + size ≤ cs.length then afill place (splice cs off v.cells) rest else none

theorem set_splice : ∀ (vs cs : List Value) (off : Nat), off + vs.length ≤ cs.length →
    ((vs.zipIdx 0).foldl (fun (cs : Array Value) (p : Value × Nat) => cs.setIfInBounds (off + p.2) p.1) cs.toArray).toList = cs.take off ++ vs ++ cs.drop (off + vs.length) := by
  have key : ∀ (vs : List Value) (k : Nat) (cs : List Value) (off : Nat), off + k + vs.length ≤ cs.length →
      ((vs.zipIdx k).foldl (fun (cs : Array Value) (p : Value × Nat) => cs.setIfInBounds (off + p.2) p.1) cs.toArray).toList = cs.take (off + k) ++ vs ++ cs.drop (off + k + vs.length) := by
    intro vs
    induction vs with
    | nil => intro k cs off _; simp
    | cons v vs ih =>
      intro k cs off h
      simp only [List.length_cons] at h
      rw [List.zipIdx_cons, List.foldl_cons]
      have e : (cs.toArray.setIfInBounds (off + k) v) = (cs.set (off + k) v).toArray := by simp
      rw [e, ih (k + 1) (cs.set (off + k) v) off (by simp; omega)]
      have := list_seg_step cs (off + k) v vs (by omega)
      simpa [Nat.add_assoc] using this
  intro vs cs off h
  have := key vs 0 cs off (by simpa using h)
  simpa using this
theorem fill_sound {G : Gh} {d : Nat} {place : Nat → Option (Nat × Nat)} {f : Operand → AV} {g : Operand → Value} (hfg : ∀ x, AR G d (f x) (g x)) :
    ∀ (parts : List (Nat × Operand)) (cs cs' : List AV) (vs : Array Value), ARs G d cs vs.toList → afill place cs (parts.map fun p => (p.1, f p.2)) = some cs' →
      ∃ vs', Instr.fill place vs (parts.map fun p => (p.1, g p.2)) = some vs' ∧ ARs G d cs' vs'.toList
  | [], cs, cs', vs, r, e => by
    simp only [List.map_nil, afill, Option.some.injEq] at e
    subst e
    exact ⟨vs, by simp [Instr.fill], r⟩
  | (i, x) :: parts, cs, cs', vs, r, e => by
    simp only [List.map_cons, afill] at e
    cases hp : place i with
    | none => simp [hp] at e
    | some q =>
    obtain ⟨off, size⟩ := q
    simp only [hp] at e
    split at e
    · rename_i hc
      obtain ⟨hj, hl, ho⟩ := hc
      have hx := AR.cells (hfg x) (by intro e; rw [e] at hj; simp [AV.isJunk] at hj)
      have hlx := hx.length
      have hlr := r.length
      simp only [Array.length_toList] at hlx hlr
      have hset := set_splice (g x).cells.toList vs.toList off (by simp only [Array.length_toList]; omega)
      obtain ⟨vs', h1, h2⟩ := fill_sound hfg parts (splice cs off (f x).cells) cs'
        ((vs.toList.take off ++ (g x).cells.toList ++ vs.toList.drop (off + (g x).cells.toList.length)).toArray)
        (by
          simp only [splice]
          rw [hx.length]
          exact ((r.take off).append hx).append (r.drop _)) e
      refine ⟨vs', ?_, h2⟩
      simp only [List.map_cons, Instr.fill, hp]
      rw [if_neg (by rw [← hlx, hl]; simp; omega)]
      have hfold : ((g x).cells.zipIdx.foldl (fun cs (c, j) => cs.setIfInBounds (off + j) c) vs) = (vs.toList.take off ++ (g x).cells.toList ++ vs.toList.drop (off + (g x).cells.toList.length)).toArray := by
        apply Array.toList_inj.mp
        rw [← hset]
        rw [← Array.foldl_toList]
        simp [Array.toList_zipIdx]
      rw [hfold]
      exact h1
    · simp at e

/-! ### build -/
def aplaces (P : Program) (t : TypeId) : Option (List AV × (Nat → Option (Nat × Nat))) :=
  match P.info? t, P.underlying t with
  | some it, some (.array _ e) =>
    match it.zero, P.info? e with
    | some z, some ie => some (z.cells.toList.map ofVal, fun i => some (i * ie.size, ie.size))
    | _, _ => none
  | some it, some (.struct fields) =>
    match it.zero, fields.toList.mapM (fun f => (P.info? f.type).map fun i => (f.offset, i.size)) with
    | some z, some places => some (z.cells.toList.map ofVal, (places.toArray[·]?))
    | _, _ => none
  | _, _ => none
def abuild (P : Program) (t : TypeId) (parts : List (Nat × AV)) : Option AV :=
  (aplaces P t).bind fun q => (afill q.2 q.1 parts).map .agg
theorem build_sound {G : Gh} {d : Nat} {t : TypeId} {f : Operand → AV} {g : Operand → Value} (hfg : ∀ x, AR G d (f x) (g x)) {parts : Array (Nat × Operand)} {y : AV} (w : World)
    (e : abuild P t (parts.toList.map fun p => (p.1, f p.2)) = some y) :
    ∃ u, (Instr.build t (parts.map fun (i, x) => (i, g x))).run P w = .ok u w ∧ AR G d y u := by
  unfold abuild at e
  simp only [Option.bind_eq_some_iff, Option.map_eq_some_iff] at e
  obtain ⟨⟨zs, place⟩, hp, cs', hf, rfl⟩ := e
  simp only at hf
  have hmap : (parts.map fun (i, x) => (i, g x)).toList = parts.toList.map fun p => (p.1, g p.2) := by simp
  suffices h : ∃ vs, P.built t (parts.map fun (i, x) => (i, g x)).toList = some vs ∧ ARs G d cs' vs.toList by
    obtain ⟨vs, h1, h2⟩ := h
    exact ⟨.agg vs, run_build w t _ vs h1, by simp only [AR]; exact ⟨vs, rfl, h2⟩⟩
  rw [hmap]
  unfold aplaces at hp
  unfold Program.built
  cases hi : P.info? t with
  | none => simp [hi] at hp
  | some it =>
  cases hu : P.underlying t with
  | none => simp [hi, hu] at hp
  | some dsc =>
  cases dsc with
  | array n el =>
    simp only [hi, hu] at hp ⊢
    cases hz : it.zero with
    | none => simp [hz] at hp
    | some z =>
    cases hie : P.info? el with
    | none => simp [hz, hie] at hp
    | some ie =>
    simp only [hz, hie, Option.some.injEq, Prod.mk.injEq] at hp ⊢
    obtain ⟨rfl, rfl⟩ := hp
    exact fill_sound hfg parts.toList _ cs' z.cells (ofVals_sound G d _) hf
  | struct fields =>
    simp only [hi, hu] at hp ⊢
    cases hz : it.zero with
    | none => simp [hz] at hp
    | some z =>
    cases hpl : fields.toList.mapM (fun f => (P.info? f.type).map fun i => (f.offset, i.size)) with
    | none => simp [hz, hpl] at hp
    | some places =>
    simp only [hz, hpl, Option.some.injEq, Prod.mk.injEq] at hp ⊢
    obtain ⟨rfl, rfl⟩ := hp
    exact fill_sound hfg parts.toList _ cs' z.cells (ofVals_sound G d _) hf
  | _ => simp [hi, hu] at hp

/-! ### buildSlice -/
def chunks (row : Bool) (size : Nat) : Nat → List PV → List PV
  | 0, _ => []
  | n + 1, ps => (if row then .agg (ps.take size) else ps.headD default) :: chunks row size n (ps.drop size)
theorem chunks_length (row : Bool) (size : Nat) : ∀ (n : Nat) (ps : List PV), (chunks row size n ps).length = n
  | 0, _ => rfl
  | n + 1, ps => by simp [chunks, chunks_length row size n]
theorem chunks_flat {row : Bool} {size : Nat} (h1 : row = true ∨ size = 1) : ∀ (n : Nat) (ps : List PV), ps.length = n * size → (∀ p ∈ ps, p.cells = [p]) →
    cellsOf (chunks row size n ps) = ps ∧ ∀ e ∈ chunks row size n ps, e.cells.length = size
  | 0, ps, hl, _ => by
    have : ps = [] := List.eq_nil_of_length_eq_zero (by simpa using hl)
    subst this
    simp [chunks, cellsOf]
  | n + 1, ps, hl, hc => by
    rw [Nat.succ_mul] at hl
    obtain ⟨i1, i2⟩ := chunks_flat h1 n (ps.drop size) (by simp; omega) (fun p hp => hc p (List.mem_of_mem_drop hp))
    have hhead : (if row then PV.agg (ps.take size) else ps.headD default).cells = ps.take size := by
      cases row with
      | true => simp [PV.cells]
      | false =>
        rcases h1 with h1 | h1
        · cases h1
        · subst h1
          cases ps with
          | nil => simp at hl
          | cons p ps => simp only [Bool.false_eq_true, if_false, List.headD_cons, List.take_succ_cons, List.take_zero]; exact hc p (by simp)
    refine ⟨?_, fun e he => ?_⟩
    · simp only [chunks, cellsOf, List.flatMap_cons]
      simp only [cellsOf] at i1
      rw [hhead, i1, List.take_append_drop]
    · simp only [chunks, List.mem_cons] at he
      rcases he with rfl | he
      · rw [hhead]; simp; omega
      · exact i2 e he
theorem leaf_cells {x : AV} {p : PV} (e : x.leaf? = some p) : p.cells = [p] := by
  cases x with
  | pv q => cases q <;> simp only [AV.leaf?, Option.some.injEq, reduceCtorEq] at e <;> subst e <;> rfl
  | full es => simp only [AV.leaf?, Option.some.injEq] at e; subst e; rfl
  | own a b c => simp only [AV.leaf?, Option.some.injEq] at e; subst e; rfl
  | _ => simp [AV.leaf?] at e
theorem leaves_cells : ∀ {xs : List AV} {ps : List PV}, leaves? xs = some ps → ∀ p ∈ ps, p.cells = [p]
  | [], ps, e => by simp only [leaves?, Option.some.injEq] at e; subst e; simp
  | x :: xs, ps, e => by
    simp only [leaves?] at e
    cases h1 : x.leaf? with
    | none => simp [h1] at e
    | some p =>
      cases h2 : leaves? xs with
      | none => simp [h1, h2] at e
      | some qs =>
        simp only [h1, h2, Option.some.injEq] at e
        subst e
        intro q hq
        rcases List.mem_cons.mp hq with rfl | hq
        · exact leaf_cells h1
        · exact leaves_cells h2 q hq

/-- A slice of cells: of pure values, or of pointers. -/
def fullO (row : Bool) (sz len : Nat) (cs : List AV) : Option (List PV) → Option AV
  | some ps => some (.full (chunks row sz len ps))
  | none => if sz = 1 ∧ cs.length = len then some (.prow cs) else none
def abuildSlice (P : Program) (t : TypeId) (len : Nat) (parts : List (Nat × AV)) : Option AV :=
  match P.underlying t with
  | some (.slice el) =>
    match P.info? el, P.underlying el with
    | some i, some dsc =>
      match i.zero with
      | some z =>
        if z.cells.size = i.size ∧ (dsc.isRow = true ∨ i.size = 1) ∧ len * i.size ≤ 16777216 then
          (afill (fun j => some (j * i.size, i.size)) ((List.range (len * i.size)).map fun j => ofVal (z.cells[j % i.size]!)) parts).bind fun cs =>
            fullO dsc.isRow i.size len cs (leaves? cs)
        else none
      | none => none
    | _, _ => none
  | _ => none
theorem buildSlice_sound {G : Gh} {ow : Owner} {ms : List Mem} {w : World} (h : RM G ow ms w) {d : Nat} {t : TypeId} {len : Nat} {f : Operand → AV} {g : Operand → Value} (hfg : ∀ x, AR G d (f x) (g x))
    {parts : Array (Nat × Operand)} {y : AV} (e : abuildSlice P t len (parts.toList.map fun p => (p.1, f p.2)) = some y) :
    ∃ u w' G', (Instr.buildSlice t len (parts.map fun (i, x) => (i, g x))).run P w = .ok u w' ∧ G.le G' ∧ RM G' ow ms w' ∧ Fr G G' ow ow w w' ∧ AR G' d y u := by
  unfold abuildSlice at e
  cases hu : P.underlying t with
  | none => simp [hu] at e
  | some dsc0 =>
  cases dsc0 with
  | slice el =>
    simp only [hu] at e
    cases hi : P.info? el with
    | none => simp [hi] at e
    | some i =>
    cases hue : P.underlying el with
    | none => simp [hi, hue] at e
    | some dsc =>
    simp only [hi, hue] at e
    cases hz : i.zero with
    | none => simp [hz] at e
    | some z =>
    simp only [hz] at e
    split at e
    · rename_i hc
      obtain ⟨hzs, hrow, hlen⟩ := hc
      simp only [Option.bind_eq_some_iff] at e
      obtain ⟨cs, hf, he⟩ := e
      have hmap : (parts.map fun (i, x) => (i, g x)).toList = parts.toList.map fun p => (p.1, g p.2) := by simp
      let zs : Array Value := ((List.range (len * i.size)).map fun j => z.cells[j % i.size]!).toArray
      obtain ⟨vs, h1, h2⟩ := fill_sound (G := G) (d := d) hfg parts.toList _ cs zs
        (by have := ofVals_sound G d ((List.range (len * i.size)).map fun j => z.cells[j % i.size]!); rw [List.map_map] at this; exact this) hf
      have hlenA : cs.length = len * i.size := by
        have key : ∀ (parts : List (Nat × AV)) (cs cs' : List AV) (place : Nat → Option (Nat × Nat)), afill place cs parts = some cs' → cs'.length = cs.length := by
          intro parts
          induction parts with
          | nil => intro cs cs' place e; simp only [afill, Option.some.injEq] at e; rw [e]
          | cons q parts ih =>
            intro cs cs' place e
            obtain ⟨a, v⟩ := q
            simp only [afill] at e
            cases hp : place a with
            | none => simp [hp] at e
            | some q =>
            obtain ⟨off, size⟩ := q
            simp only [hp] at e
            split at e
            · rename_i hc
              rw [ih _ _ _ e]
              simp only [splice, List.length_append, List.length_take, List.length_drop]
              omega
            · simp at e
        rw [key _ _ _ _ hf]
        simp
      have hvl : vs.toList.length = len * i.size := by rw [← h2.length, hlenA]
      obtain ⟨r1, r2⟩ := h.newRow vs el vs.size
      have hex : vs.extract 0 vs.size = vs := by simp
      rw [hex] at r1 r2
      refine ⟨.slice (some ⟨w.heap.size, 0, none⟩) len len, _, _, ?_, G.more_le _, r1, r2, ?_⟩
      · have hzero : ((Array.range (len * i.size)).map ((if len * i.size = 0 then #[] else z.cells)[· % (if len * i.size = 0 then #[] else z.cells).size]!)) = zs := by
          apply Array.toList_inj.mp
          by_cases h0 : len * i.size = 0
          · simp [zs, h0]
          · simp [zs, h0, hzs, Array.toList_range]
        have hlen' : ¬ (len * i.size > 2 ^ 24) := by omega
        have hfill : Instr.fill (fun j => some (j * i.size, i.size)) zs (parts.map fun (i, x) => (i, g x)).toList = some vs := by rw [hmap]; exact h1
        have hs : ∀ w', (sizeOf el).run P w' = .ok i.size w' := run_sizeOf hi
        by_cases h0 : len * i.size = 0
        · simp only [h0, if_true] at hzero
          simp only [Instr.buildSlice, Sem.run_bind, run_underlying hu, Result.andThen_ok, hs, hlen', if_false, h0, if_true, Sem.run_pure, Sem.run_ite]
          rw [hzero, hfill]
          simp [newRow, pushed]
        · simp only [h0, if_false] at hzero
          have hz' : (zeroValue el).run P w = .ok z w := by simp [zeroValue, typeInfo, hi, hz]
          simp only [Instr.buildSlice, Sem.run_bind, run_underlying hu, Result.andThen_ok, hs, hlen', if_false, h0, Sem.run_pure, hz', Sem.run_ite]
          rw [hzero, hfill]
          simp [newRow, pushed]
      · have hle := G.more_le (rowProt w.heap.size vs)
        have hpv : ∀ (j : Nat) (u : Value), vs.toList[j]? = some u → (G.more (rowProt w.heap.size vs)).M w.heap.size j = some u := fun j u hj => by
          have hj' : vs[j]? = some u := by simpa [Array.getElem?_toList] using hj
          simp [Gh.more, h.fresh, rowProt, hj']
        cases hps : leaves? cs with
        | none =>
          rw [hps] at he
          simp only [fullO] at he
          split at he
          · rename_i hq
            simp only [Option.some.injEq] at he
            subst he
            simp only [AR]
            exact ⟨w.heap.size, vs.toList, by rw [hq.2], h2.mono hle, hpv⟩
          · cases he
        | some ps =>
        rw [hps] at he
        simp only [fullO, Option.some.injEq] at he
        subst he
        have hP := ARs.leaves h2 hps
        have hpl : ps.length = len * i.size := by rw [hP.length, ← h2.length, hlenA]
        have hcells := leaves_cells hps
        obtain ⟨c1, c2⟩ := chunks_flat (row := dsc.isRow) hrow len ps hpl hcells
        simp only [AR]
        have := PR.of_flat (M := (G.more (rowProt w.heap.size vs)).M) (size := i.size) (b := w.heap.size) (o := 0) (cap := len) (es := chunks dsc.isRow i.size len ps) (us := vs.toList) c2
          (by rw [c1]; exact hP.mono hle.M) (fun j u hj => by rw [Nat.zero_add]; exact hpv j u hj) (by rw [chunks_length]; exact Nat.le_refl _)
        rw [chunks_length] at this
        exact ⟨this, _, by rw [chunks_length]⟩
    · simp at e
  | _ => simp [hu] at e
end Go.Proofs.Ytjbmdfdgeioecaa.Am
/- The abstract machine, part 11: one operation. -/
namespace Go.Proofs.Ytjbmdfdgeioecaa.Am
set_option linter.unusedVariables false
set_option linter.unusedSimpArgs false
variable {P : Program}

/-- A call, as the machine is given it: function, arguments, the callers' memories (the innermost first); result and memories. -/
abbrev ACall := FuncId → List AV → List Mem → Option (AV × List Mem)

/-- What the callee may be shown without the callers' memory. -/
def Gh.bare (G : Gh) : Gh := { M := G.M, φ := fun _ _ => none, τ := fun _ _ => none, ρ := fun _ _ => none }
mutual
def AV.plain : AV → Bool
  | .ptr _ _ _ => false
  | .mref _ _ => false
  | .row _ _ _ _ => false
  | .rptr _ _ _ _ => false
  | .prow cs => plains cs
  | .cptr _ x => x.plain
  | .agg cs => plains cs
  | .tup cs => plains cs
  | .func _ first caps => plains first && plains caps
  | _ => true
def plains : List AV → Bool
  | [] => true
  | x :: xs => x.plain && plains xs
end

/-- The contract of calls: in any world that stands in the relation, it returns; what is known grows; old blocks of nobody stay. -/
def CallOK (P : Program) (call : ACall) : Prop :=
  ∀ f args ms r ms', call f args ms = some (r, ms') → ∀ G ow w vals, RM G ow ms w → (∀ d, ms.length ≤ d + 1 → ARs G d args vals) → closeds ms.length args = true →
    Calls P f vals.toArray w fun e w' => ∃ v G' ow', e = .returned v ∧ G.le G' ∧ Fr G G' ow ow' w w' ∧ RM G' ow' ms' w' ∧ ms'.length = ms.length ∧ (∀ d, ms.length ≤ d + 1 → AR G' d r v) ∧ r.closed ms.length = true

mutual
theorem closed_exp (k : Nat) : ∀ x : AV, (x.exp k).closed k = true
  | .pv p => by simp [AV.exp, AV.closed]
  | .full es => by simp [AV.exp, AV.closed]
  | .own none s es => by simp [AV.exp, AV.closed]
  | .own (some d) s es => by simp only [AV.exp]; split <;> simp_all [AV.closed]
  | .agg cs => by simp [AV.exp, AV.closed, closeds_exp k cs]
  | .tup cs => by simp [AV.exp, AV.closed, closeds_exp k cs]
  | .ptr none s off => by simp [AV.exp, AV.closed]
  | .ptr (some d) s off => by simp only [AV.exp]; split <;> simp_all [AV.closed]
  | .mref none s => by simp [AV.exp, AV.closed]
  | .mref (some d) s => by simp only [AV.exp]; split <;> simp_all [AV.closed]
  | .ments ks xs => by simp [AV.exp, AV.closed]
  | .mrw _ _ _ => by simp [AV.exp, AV.closed]
  | .row none s _ _ => by simp [AV.exp, AV.closed]
  | .row (some d) s _ _ => by simp only [AV.exp]; split <;> simp_all [AV.closed]
  | .rptr none s _ _ => by simp [AV.exp, AV.closed]
  | .rptr (some d) s _ _ => by simp only [AV.exp]; split <;> simp_all [AV.closed]
  | .prow es => by simp [AV.exp, AV.closed, closeds_exp k es]
  | .cptr _ x => by simp [AV.exp, AV.closed, closed_exp k x]
  | .eptr cs => by simp [AV.exp, AV.closed]
  | .func f a b => by simp [AV.exp, AV.closed, closeds_exp k a, closeds_exp k b]
  | .junk => by simp [AV.exp, AV.closed]
theorem closeds_exp (k : Nat) : ∀ xs : List AV, closeds k (exps k xs) = true
  | [] => by simp [exps, closeds]
  | x :: xs => by simp [exps, closeds, closed_exp k x, closeds_exp k xs]
end

/-- What may lie in a cell. -/
def AV.single : AV → Bool
  | .agg _ => false
  | .tup _ => false
  | .ments _ _ => false
  | .mrw _ _ _ => false
  | .junk => false
  | _ => true

/-- An operation's outcome: the value for its slot, and the memories. -/
def anew (st : St) (s : Nat) (cs : List AV) : Option (AV × List Mem) :=
  if (varAt st.mems st.d s).isNone ∧ st.mems ≠ [] then some (.ptr none s 0, setVar st.mems st.d s cs) else none
def spliceP (cs : List PV) (off : Nat) (ps : List PV) : List PV := cs.take off ++ ps ++ cs.drop (off + ps.length)
def astore (P : Program) (st : St) (t : TypeId) (p x : AV) : Option (AV × List Mem) :=
  match P.info? t with
  | none => none
  | some i =>
    if x.isJunk = false ∧ x.cells.length = i.size ∧ x.cells.all AV.single = true then
      match p with
      | .ptr none s off => (okC (varAt st.mems st.d s)).bind fun cs =>
        if off + i.size ≤ cs.length then some (.junk, setVar st.mems st.d s (splice cs off x.cells)) else none
      | .ptr (some d) s off => (okC (varAt st.mems d s)).bind fun cs =>
        if off + i.size ≤ cs.length ∧ closeds (d + 1) x.cells = true ∧ d ≤ st.d then some (.junk, setVar st.mems d s (splice cs off x.cells)) else none
      | .rptr loc s ver off => (rwAt st.mems (loc.getD st.d) s).bind fun q =>
        (leaves? x.cells).bind fun ps => if q.1 = ver ∧ 0 < i.size ∧ off + i.size ≤ q.2.2.length then some (.junk, setVar st.mems (loc.getD st.d) s [.mrw q.1 q.2.1 (spliceP q.2.2 off ps)]) else none
      | _ => none
    else none
def aappend (P : Program) (st : St) (dst : Option Tmp) (t t' : TypeId) (x y : AV) : Option (AV × List Mem) :=
  match P.underlying t, P.underlying t', elemInfo P t, y.slc?, dst with
  | some (.slice el), some (.slice el'), some i, some ys, some s =>
    if el = el' ∧ sized i.size ys = true ∧ st.mems ≠ [] then
      match x with
      | .full es => if ys.isEmpty then some (.full es, st.mems) else if (varAt st.mems st.d s).isNone = false then (rwAt st.mems st.d s).bind fun q =>
          if es.isEmpty = true ∧ q.2.1 = i.size ∧ q.2.2.isEmpty = true ∧ fits i ys.length = true then some (.row none s (q.1 + 2) ys.length, setVar st.mems st.d s [.mrw (q.1 + 2) i.size (cellsOf ys)]) else none
        else if sized i.size es = true ∧ fits i (es.length + ys.length) = true ∧ (tokAt st.mems st.d s).isNone then
          some (.own none s (es ++ ys), setTok st.mems st.d s (es.length + ys.length, i.size)) else none
      | .own loc s' es => if tokAt st.mems (loc.getD st.d) s' = some (es.length, i.size) ∧ fits i (es.length + ys.length) = true then
          some (.own loc s' (es ++ ys), setTok st.mems (loc.getD st.d) s' (es.length + ys.length, i.size)) else none
      | .row loc s' ver n => if ys.isEmpty then some (.row loc s' ver n, st.mems) else (rwAt st.mems (loc.getD st.d) s').bind fun q =>
          if q.1 = ver ∧ q.2.1 = i.size ∧ q.2.2.length = n * i.size ∧ fits i (n + ys.length) = true then
            some (.row loc s' (ver + 1) (n + ys.length), setVar st.mems (loc.getD st.d) s' [.mrw (ver + 1) i.size (q.2.2 ++ cellsOf ys)]) else none
      | _ => none
    else none
  | _, _, _, _, _ => none
/-- A new row of zero values. -/
def amake (P : Program) (st : St) (dst : Option Tmp) (t : TypeId) (len cap : AV) : Option (AV × List Mem) :=
  match P.underlying t, len, cap, dst with
  | some (.slice el), .pv (.int _ n), .pv (.int _ m), some s =>
    match P.info? el with
    | some i => match i.zero with
      | some z => (leaves? (z.cells.toList.map ofVal)).bind fun zp => if n = m ∧ 0 ≤ n ∧ 0 < i.bytes ∧ n * i.bytes ≤ 140737488355328 ∧ z.cells.size = i.size ∧ (varAt st.mems st.d s).isNone ∧ st.mems ≠ [] then
          some (.row none s 0 n.toNat, setVar st.mems st.d s [.mrw 0 i.size (zrow n.toNat zp)]) else none
      | none => none
    | none => none
  | _, _, _, _ => none

theorem anew_sound {G : Gh} {ow : Owner} {st : St} {w : World} (h : RM G ow st.mems w) {s : Nat} {cs : List AV} {y : AV} {ms' : List Mem} {vs : Array Value} (e : TypeId) (hr : ARs G st.d cs vs.toList)
    (he : anew st s cs = some (y, ms')) :
    ∃ G' ow', G.le G' ∧ Fr G G' ow ow' w (pushed w (.cells vs e (0, 0))) ∧ RM G' ow' ms' (pushed w (.cells vs e (0, 0))) ∧ ms'.length = st.mems.length ∧ AR G' st.d y (.pointer (some ⟨w.heap.size, 0, none⟩)) := by
  unfold anew at he
  split at he
  · rename_i hc
    simp only [Option.some.injEq, Prod.mk.injEq] at he
    obtain ⟨rfl, rfl⟩ := he
    have hd : (memAt st.mems st.d).isSome := by
      cases hm : st.mems with
      | nil => exact absurd hm hc.2
      | cons m ms => simp [memAt, St.d, hm]
    obtain ⟨h1, h2, h3⟩ := h.newVar (ob := .cells vs e (0, 0)) hd (by simpa using hc.1) (.inl ⟨vs, e, rfl, hr⟩)
    refine ⟨_, _, h2, h3, h1, modMem_length _ _ _, ?_⟩
    simp only [AR, Option.getD_none]
    exact ⟨Nat.le_refl _, w.heap.size, by simp [Gh.var], rfl⟩
  · cases he

theorem ARs.one {G : Gh} {d : Nat} : ∀ {xs : List AV} {vs : List Value}, ARs G d xs vs → (∀ x ∈ xs, ∀ v, AR G d x v → v.oneCell' = true) → ∀ v ∈ vs, v.oneCell' = true
  | [], vs, r, _ => by simp only [ARs] at r; subst r; simp
  | x :: xs, vs, r, h => by
    simp only [ARs] at r
    obtain ⟨u, us, rfl, r1, r2⟩ := r
    intro v hv
    rcases List.mem_cons.mp hv with rfl | hv
    · exact h x (by simp) _ r1
    · exact ARs.one r2 (fun y hy => h y (by simp [hy])) v hv

theorem AR.single {G : Gh} {d : Nat} {x : AV} {v : Value} (h : AR G d x v) (e : x.single = true) : v.oneCell' = true := by
  cases x with
  | agg cs => simp [AV.single] at e
  | tup cs => simp [AV.single] at e
  | junk => simp [AV.single] at e
  | ments ks xs => simp only [AR] at h
  | mrw _ _ _ => simp only [AR] at h
  | row loc s ver n => simp only [AR] at h; obtain ⟨_, _, _, _, _, _, rfl, _⟩ := h; rfl
  | rptr loc s ver n => simp only [AR] at h; obtain ⟨_, _, _, _, _, rfl, _⟩ := h; rfl
  | prow es => simp only [AR] at h; obtain ⟨_, _, rfl, _⟩ := h; rfl
  | cptr q x => simp only [AR] at h; obtain ⟨_, _, rfl, _⟩ := h; rfl
  | mref loc s => simp only [AR] at h; obtain ⟨_, b, _, rfl⟩ := h; rfl
  | pv p => simp only [AR] at h; exact h.one.2.2
  | full es => simp only [AR] at h; obtain ⟨_, a, rfl⟩ := h; rfl
  | own loc s es => simp only [AR] at h; exact h.2.1.one.2.2
  | ptr loc s off => simp only [AR] at h; obtain ⟨_, b, _, rfl⟩ := h; rfl
  | eptr cs => simp only [AR] at h; obtain ⟨b, o, rfl, _⟩ := h; rfl
  | func f a b => simp only [AR] at h; obtain ⟨us, vs, rfl, _⟩ := h; rfl

theorem store_run {G : Gh} {d : Nat} {w : World} {t : TypeId} {i : TypeInfo} {b off : Nat} {vs : Array Value} {el : TypeId} {x : AV} {u : Value} {cs : List AV}
    (hi : P.info? t = some i) (hb : w.heap[b]? = some (.cells vs el (0, 0))) (hx : ARs G d x.cells u.cells.toList) (hl : x.cells.length = i.size) (hs : ∀ y ∈ x.cells, y.single = true)
    (hc : ARs G d cs vs.toList) (ho : off + i.size ≤ cs.length) :
    ∃ vs', (Instr.storeAt t (.pointer (some ⟨b, off, none⟩)) u).run P w = .ok () (w.setRow b vs') ∧ ARs G d (splice cs off x.cells) vs'.toList := by
  have hlx := hx.length
  have hlc := hc.length
  simp only [Array.length_toList] at hlx hlc
  refine ⟨(vs.toList.take off ++ u.cells.toList ++ vs.toList.drop (off + u.cells.toList.length)).toArray, ?_, ?_⟩
  · have hst := run_storeCells_at P b off el u.cells.toList 0 vs w hb (by simp only [Array.length_toList]; omega) (hx.one fun y hy v hv => hv.single (hs y hy))
    simp only [Nat.add_zero] at hst
    have hsz : ¬ (u.cells.size ≠ i.size) := by omega
    simp only [Instr.storeAt, Instr.sureAddr, Sem.run_bind, Sem.run_pure, Result.andThen_ok, storeVar, run_sizeOf hi, hsz, if_false, hst]
  · simp only [splice]
    rw [hx.length]
    exact ((hc.take off).append hx).append (hc.drop _)

theorem PRs.take {M : Prot} {ps : List PV} {vs : List Value} (h : PRs M ps vs) (n : Nat) : PRs M (ps.take n) (vs.take n) := by
  induction h generalizing n with
  | nil => simp; exact .nil
  | cons h1 _ ih =>
    cases n with
    | zero => simp; exact .nil
    | succ n => simp only [List.take_succ_cons]; exact .cons h1 (ih n)
theorem PRs.drop {M : Prot} {ps : List PV} {vs : List Value} (h : PRs M ps vs) (n : Nat) : PRs M (ps.drop n) (vs.drop n) := by
  induction h generalizing n with
  | nil => simp; exact .nil
  | cons h1 h2 ih =>
    cases n with
    | zero => simp; exact .cons h1 h2
    | succ n => simpa using ih n
/-- A store to cells that are the first ones of their block. -/
theorem store_runP {G : Gh} {d : Nat} {w : World} {t : TypeId} {i : TypeInfo} {b off : Nat} {vs : Array Value} {el : TypeId} {x : AV} {u : Value} {cs ps : List PV}
    (hi : P.info? t = some i) (hb : w.heap[b]? = some (.cells vs el (0, 0))) (hx : PRs G.M ps u.cells.toList) (hl : ps.length = i.size)
    (hc : PRs G.M cs (vs.toList.take cs.length)) (ho : off + i.size ≤ cs.length) :
    ∃ vs', (Instr.storeAt t (.pointer (some ⟨b, off, none⟩)) u).run P w = .ok () (w.setRow b vs') ∧ vs'.size = vs.size ∧ (spliceP cs off ps).length = cs.length ∧ PRs G.M (spliceP cs off ps) (vs'.toList.take cs.length) := by
  have hlx := hx.length
  have hlc := hc.length
  simp only [Array.length_toList, List.length_take] at hlx hlc
  have hsz : off + u.cells.size ≤ vs.size := by omega
  have hsl : (spliceP cs off ps).length = cs.length := by
    simp only [spliceP, List.length_append, List.length_take, List.length_drop]; omega
  refine ⟨(vs.toList.take off ++ u.cells.toList ++ vs.toList.drop (off + u.cells.toList.length)).toArray, ?_, ?_, hsl, ?_⟩
  · have hst := run_storeCells_at P b off el u.cells.toList 0 vs w hb (by simp only [Array.length_toList]; omega) hx.one
    simp only [Nat.add_zero] at hst
    have hsz : ¬ (u.cells.size ≠ i.size) := by omega
    simp only [Instr.storeAt, Instr.sureAddr, Sem.run_bind, Sem.run_pure, Result.andThen_ok, storeVar, run_sizeOf hi, hsz, if_false, hst]
  · simp only [List.size_toArray, List.length_append, List.length_take, List.length_drop, Array.length_toList]; omega
  · have h1 := ((hc.take off).append hx).append (hc.drop (off + u.cells.toList.length))
    simp only [spliceP]
    rw [hx.length]
    have h2 : (vs.toList.take off ++ u.cells.toList ++ vs.toList.drop (off + u.cells.toList.length)).toArray.toList.take cs.length = (vs.toList.take cs.length).take off ++ u.cells.toList ++ (vs.toList.take cs.length).drop (off + u.cells.toList.length) := by
      simp only [List.take_append, List.length_append, List.length_take, Array.length_toList, List.take_take, List.drop_take]
      congr 1
      · congr 1
        · congr 1; omega
        · rw [List.take_of_length_le]; simp only [Array.length_toList]; omega
      · congr 1; omega
    rw [h2]
    exact h1
theorem varAt_depth {ms : List Mem} {d s : Nat} {cs : List AV} (h : varAt ms d s = some cs) : d < ms.length := by
  unfold varAt at h
  cases hm : memAt ms d with
  | none => simp [hm] at h
  | some m => exact memAt_lt hm
theorem astore_sound {G : Gh} {ow : Owner} {st : St} {w : World} (h : RM G ow st.mems w) {t : TypeId} {p x y : AV} {v u : Value} {ms' : List Mem} (rp : AR G st.d p v) (rx : AR G st.d x u)
    (e : astore P st t p x = some (y, ms')) :
    ∃ w', (Instr.storeAt t v u).run P w = .ok () w' ∧ Fr G G ow ow w w' ∧ RM G ow ms' w' ∧ ms'.length = st.mems.length ∧ y = .junk := by
  unfold astore at e
  cases hi : P.info? t with
  | none => simp [hi] at e
  | some i =>
  simp only [hi] at e
  split at e
  · rename_i hc
    obtain ⟨hj, hl, hs⟩ := hc
    have hs' : ∀ y ∈ x.cells, y.single = true := by simpa using hs
    have hx := AR.cells rx (by intro e; rw [e] at hj; simp [AV.isJunk] at hj)
    split at e
    · rename_i s off
      simp only [Option.bind_eq_some_iff] at e
      obtain ⟨cs, hv, e⟩ := e
      split at e
      · rename_i ho
        simp only [Option.some.injEq, Prod.mk.injEq] at e
        obtain ⟨rfl, rfl⟩ := e
        obtain ⟨hv, hno, hnr⟩ := okC_some hv
        obtain ⟨b, ob, h1, _, h3, h4, _⟩ := h.var _ _ _ hv hnr
        obtain ⟨vs, el, rfl, h6⟩ := h4.cells hno
        simp only [AR, Option.getD_none] at rp
        obtain ⟨_, b', hb', rfl⟩ := rp
        rw [h1] at hb'
        cases hb'
        obtain ⟨vs', g1, g2⟩ := store_run (P := P) hi h3 hx hl hs' h6 ho
        obtain ⟨b2, vs2, e2, k1, _, _, k4, k5⟩ := h.store hno hnr hv g2
        rw [h1] at k1
        cases k1
        exact ⟨_, g1, k5, k4, modMem_length _ _ _, rfl⟩
      · cases e
    · rename_i d s off
      simp only [Option.bind_eq_some_iff] at e
      obtain ⟨cs, hv, e⟩ := e
      split at e
      · rename_i ho
        obtain ⟨ho, hcl, hd⟩ := ho
        simp only [Option.some.injEq, Prod.mk.injEq] at e
        obtain ⟨rfl, rfl⟩ := e
        obtain ⟨hv, hno, hnr⟩ := okC_some hv
        obtain ⟨b, ob, h1, _, h3, h4, _⟩ := h.var _ _ _ hv hnr
        obtain ⟨vs, el, rfl, h6⟩ := h4.cells hno
        simp only [AR, Option.getD_some] at rp
        obtain ⟨_, b', hb', rfl⟩ := rp
        rw [h1] at hb'
        cases hb'
        have hx' : ARs G d x.cells u.cells.toList := ARs.closeds (k := d + 1) (G' := G) ⟨Prot.le_refl _, fun _ _ _ _ h => h, fun _ _ t _ h => ⟨t, h, t.le_refl⟩, fun _ _ t _ h => ⟨t, h, t.le_refl⟩⟩ (Nat.le_refl _) hx hcl
        obtain ⟨vs', g1, g2⟩ := store_run (P := P) hi h3 hx' hl hs' h6 ho
        obtain ⟨b2, vs2, e2, k1, _, _, k4, k5⟩ := h.store hno hnr hv g2
        rw [h1] at k1
        cases k1
        exact ⟨_, g1, k5, k4, modMem_length _ _ _, rfl⟩
      · cases e
    · rename_i loc s ver off
      simp only [Option.bind_eq_some_iff] at e
      obtain ⟨⟨v', z, cs⟩, hq, e⟩ := e
      simp only [Option.bind_eq_some_iff] at e
      obtain ⟨ps, hps, e⟩ := e
      split at e
      · rename_i ho
        obtain ⟨rfl, hpos, ho⟩ := ho
        simp only [Option.some.injEq, Prod.mk.injEq] at e
        obtain ⟨rfl, rfl⟩ := e
        simp only [AR] at rp
        obtain ⟨r0, tk, b, ht, hver, rfl, hb⟩ := rp
        have hv := rwAt_some hq
        have hne : cs ≠ [] := fun e => by subst e; simp at ho; omega
        obtain ⟨vs, el, g1, g2, g3, g4, g5, g6⟩ := row_cells h hv ht hb hne
        obtain ⟨tk', q1, q2, q3, _⟩ := h.row _ _ _ _ _ hv
        rw [ht] at q1
        cases q1
        have hx' := ARs.leaves hx hps
        have hpl : ps.length = i.size := by rw [hx'.length, ← hx.length, hl]
        obtain ⟨vs', k1, k2, k3, k4⟩ := store_runP (P := P) (d := st.d) (x := x) hi g1 hx' hpl g5 ho
        obtain ⟨m1, m2⟩ := h.putRw (cs' := spliceP cs off ps) (vs' := vs') hv ht g1 g2 (hb q2.symm) g6 (by rw [k2]; exact g3) (by rw [k3]; exact g4) (by rw [k3]; exact k4)
        exact ⟨_, k1, m2, m1, modMem_length _ _ _, rfl⟩
      · cases e
    · cases e
  · cases e

theorem aappend_sound {G : Gh} {ow : Owner} {st : St} {w : World} (h : RM G ow st.mems w) {dst : Option Tmp} {t t' ty : TypeId} {x y z : AV} {v u : Value} {ms' : List Mem} (rx : AR G st.d x v) (ry : AR G st.d y u)
    (e : aappend P st dst t t' x y = some (z, ms')) :
    ∃ r w' G' ow', (Builtin.append_ #[t, t'] ty #[v, u]).run P w = .ok r w' ∧ G.le G' ∧ Fr G G' ow ow' w w' ∧ RM G' ow' ms' w' ∧ ms'.length = st.mems.length ∧ AR G' st.d z r := by
  unfold aappend at e
  split at e
  · rename_i el el' i ys s hu hu' hei hys
    have hi : P.info? el = some i := by simpa [elemInfo, hu] using hei
    split at e
    · rename_i hc
      obtain ⟨rfl, hzy, hne⟩ := hc
      have hzy := sized_mem hzy
      have hpy := AR.slc ry hys
      split at e
      · -- a full slice
        rename_i es
        split at e
        · -- nothing is appended
          rename_i h0
          have h0 : ys = [] := by simpa using h0
          subst h0
          simp only [Option.some.injEq, Prod.mk.injEq] at e
          obtain ⟨rfl, rfl⟩ := e
          simp only [AR] at rx
          obtain ⟨hp, a, rfl⟩ := rx
          obtain ⟨ns, q1, q2, q3, _⟩ := hpy.flat (P := P) (size := i.size) (by simp)
          have hns : ns = [] := by simpa using q2
          subst hns
          refine ⟨_, w, G, ow, run_append_none (ty := ty) hu hu' hi (run_lenOf hpy w) (Nat.le_refl _) (q3 w h.prot), Gh.le_refl G, Fr.refl G ow w, h, rfl, ?_⟩
          simp only [AR]
          exact ⟨hp, a, rfl⟩
        split at e
        · rename_i h0 hvs
          have h0 : ys ≠ [] := by simpa using h0
          simp only [Option.bind_eq_some_iff] at e
          obtain ⟨⟨ver, z, cs⟩, hq, e⟩ := e
          simp only at e
          split at e
          · rename_i hc
            obtain ⟨he, rfl, hcs, hf⟩ := hc
            have he : es = [] := by simpa using he
            have hcs : cs = [] := by simpa using hcs
            subst he
            subst hcs
            simp only [Option.some.injEq, Prod.mk.injEq] at e
            obtain ⟨rfl, rfl⟩ := e
            simp only [AR] at rx
            obtain ⟨hp, a, rfl⟩ := rx
            simp only [List.length_nil]
            have hv := rwAt_some hq
            have hd := varAt_mem hv
            obtain ⟨tk, q1, q2, q3, q4, q5⟩ := h.row _ _ _ _ _ hv
            have hle0 : ∀ t0, G.ρ st.d s = some t0 → t0.le { base := a, cap := 0, sz := i.size, len := ver + 1 } := fun t0 ht => by
              rw [q1] at ht
              cases ht
              exact ⟨by rw [q2]; exact Nat.le_succ _, q3.symm, fun q => by simp only [q2] at q; omega⟩
            have r1 := h.setRw (d := st.d) (s := s) (t := { base := a, cap := 0, sz := i.size, len := ver + 1 }) (cs := []) hd (by simp) (fun h0 => absurd h0 (Nat.lt_irrefl _)) hle0
            obtain ⟨r, w', G', ow', tk2, k1, k2, k3, k4, k5, k6, k7, k8, k9⟩ := append_rw (P := P) (ty := ty) (n := 0) (base := a) (cap := 0) r1 hu hu' hi (varAt_set hd) (tk := { base := a, cap := 0, sz := i.size, len := ver + 1 }) (by simp [Gh.rw]) rfl rfl (by simp) hpy hzy (by simpa using hf) (List.length_pos_iff.mpr h0)
            rw [setVar_setVar] at k4
            refine ⟨r, w', G', ow', k1, Gh.le_trans (Gh.rw_le hle0) k2, ⟨k3.size, k3.same, fun b hb ho o => k3.M b hb ho o, k3.ow, k3.env⟩, by simpa using k4, modMem_length _ _ _, ?_⟩
            simp only [AR, Option.getD_none]
            have k6' : tk2.len = ver + 1 + 1 := k6
            exact ⟨Nat.le_refl _, tk2, tk2.base, tk2.cap, k5, by omega, by simpa using k7, by simpa using k8, k9, fun _ => ⟨rfl, rfl⟩⟩
          · cases e
        split at e
        · rename_i h0 hvn hq
          obtain ⟨hze, hf, hn⟩ := hq
          have h0 : ys ≠ [] := by simpa using h0
          have hze := sized_mem hze
          simp only [Option.some.injEq, Prod.mk.injEq] at e
          obtain ⟨rfl, rfl⟩ := e
          simp only [AR] at rx
          obtain ⟨hp, a, rfl⟩ := rx
          have hd : (memAt st.mems st.d).isSome := by
            cases hm : st.mems with
            | nil => exact absurd hm hne
            | cons m ms => simp [memAt, St.d, hm]
          have hτ : ∀ t0, G.τ st.d s = some t0 → False := fun t0 ht0 => by
            obtain ⟨z, hz⟩ := h.τsome _ _ _ ht0
            rw [hz] at hn
            simp at hn
          have fin : ∀ r w', Appended P G ow st.mems w st.d s (es.length + ys.length) i.size (es ++ ys) r w' →
              ∃ G' ow', G.le G' ∧ Fr G G' ow ow' w w' ∧ RM G' ow' (setTok st.mems st.d s (es.length + ys.length, i.size)) w' ∧ (setTok st.mems st.d s (es.length + ys.length, i.size)).length = st.mems.length ∧ AR G' st.d (.own none s (es ++ ys)) r := by
            intro r w' ⟨G', ow', tk, g1, g2, g3, g4, g5, g6, g7, g8⟩
            refine ⟨G', ow', g1, g2, g3, modMem_length _ _ _, ?_⟩
            simp only [AR, Option.getD_none]
            refine ⟨Nat.le_refl _, g4, tk, g5, fun e he => ?_, by simp [g6], fun _ => by simpa using g8⟩
            rw [g7]
            rcases List.mem_append.mp he with he | he
            · exact hze e he
            · exact hzy e he
          have hpos : 0 < ys.length := List.length_pos_iff.mpr h0
          obtain ⟨r, w', g1, g2⟩ := append_moved (P := P) (ty := ty) (s := s) h hu hu' hi hp hpy hze hzy hf (by omega) hd (fun t0 ht0 => (hτ t0 ht0).elim)
          obtain ⟨G', ow', k⟩ := fin r w' g2
          exact ⟨r, w', G', ow', g1, k⟩
        · cases e
      · -- an own row
        rename_i loc s' es
        split at e
        · rename_i hq
          obtain ⟨hk, hf⟩ := hq
          simp only [Option.some.injEq, Prod.mk.injEq] at e
          obtain ⟨rfl, rfl⟩ := e
          simp only [AR] at rx
          obtain ⟨r0, hp, t1, ht1, hze, hlen, hval⟩ := rx
          obtain ⟨t0, g1, g2, g3, g4, g5⟩ := h.tok _ _ _ _ hk
          rw [ht1] at g1
          cases g1
          have hv := hval g2.symm
          subst hv
          rw [g3] at hze
          have hd : (memAt st.mems (loc.getD st.d)).isSome := by
            cases hm : memAt st.mems (loc.getD st.d) with
            | none => simp [tokAt, hm] at hk
            | some m => rfl
          have fin : ∀ r w', Appended P G ow st.mems w (loc.getD st.d) s' (es.length + ys.length) i.size (es ++ ys) r w' →
              ∃ G' ow', G.le G' ∧ Fr G G' ow ow' w w' ∧ RM G' ow' (setTok st.mems (loc.getD st.d) s' (es.length + ys.length, i.size)) w' ∧ (setTok st.mems (loc.getD st.d) s' (es.length + ys.length, i.size)).length = st.mems.length ∧ AR G' st.d (.own loc s' (es ++ ys)) r := by
            intro r w' ⟨G', ow', tk, g1, g2, g3, g4, g5, g6, g7, g8⟩
            refine ⟨G', ow', g1, g2, g3, modMem_length _ _ _, ?_⟩
            simp only [AR]
            refine ⟨r0, g4, tk, g5, fun e he => ?_, by simp [g6], fun _ => by simpa using g8⟩
            rw [g7]
            rcases List.mem_append.mp he with he | he
            · exact hze e he
            · exact hzy e he
          have hne0 : es.length ≠ 0 := by
            unfold tokAt at hk
            intro hq
            rw [hq] at hk
            simp [Option.filter_eq_some_iff] at hk
          by_cases h0 : ys = []
          · subst h0
            obtain ⟨r, w', k1, k2⟩ := append_none (P := P) (ty := ty) (d := loc.getD st.d) (s := s') (tk := t1) h hu hu' hi hp hpy hd hne0 (by omega) rfl rfl g2
              (fun hlt => by
                obtain ⟨b, vs, el, m1, m2, m3, m4, m5⟩ := g5 (by omega)
                exact ⟨b, vs, el, m1, m2, m3, by rw [g3]; exact m4, fun o ho => m5 o (by rw [g2, g3] at ho; exact ho)⟩)
              (fun t0 ht0 => by rw [ht1] at ht0; cases ht0; exact Tok.le_refl _)
            rw [g3] at k2
            obtain ⟨G', ow', k⟩ := fin r w' (by simpa using k2)
            exact ⟨r, w', G', ow', k1, k⟩
          · have hpos : 0 < ys.length := List.length_pos_iff.mpr h0
            by_cases hroom : es.length + ys.length ≤ t1.cap
            · obtain ⟨b, vs, el, m1, m2, m3, m4, m5⟩ := g5 (by omega)
              rw [m1] at hp ⊢
              obtain ⟨r, w', k1, k2⟩ := append_room (P := P) (ty := ty) h hu hu' hi hp hpy hze hzy hroom hd m2 m3 m4 m5
                (by rw [ht1]; cases t1; simp only at m1 g2 g3; subst m1; subst g2; subst g3; rfl) hpos
              obtain ⟨G', ow', k⟩ := fin r w' k2
              exact ⟨r, w', G', ow', k1, k⟩
            · obtain ⟨r, w', k1, k2⟩ := append_moved (P := P) (ty := ty) (d := loc.getD st.d) (s := s') h hu hu' hi hp hpy hze hzy hf (by omega) hd
                (fun t0 ht0 => by rw [ht1] at ht0; cases ht0; exact ⟨by omega, g3⟩)
              obtain ⟨G', ow', k⟩ := fin r w' k2
              exact ⟨r, w', G', ow', k1, k⟩
        · cases e
      · -- a row that may be written
        rename_i loc s' ver n
        simp only [AR] at rx
        obtain ⟨r0, tk, base, cap, ht, hver, rfl, hnc, hbs, hbe⟩ := rx
        split at e
        · rename_i h0
          have h0 : ys = [] := by simpa using h0
          subst h0
          simp only [Option.some.injEq, Prod.mk.injEq] at e
          obtain ⟨rfl, rfl⟩ := e
          obtain ⟨ns, q1, q2, q3, _⟩ := hpy.flat (P := P) (size := i.size) (by simp)
          have hns : ns = [] := by simpa using q2
          subst hns
          refine ⟨_, w, G, ow, run_append_none (ty := ty) hu hu' hi (run_lenOf hpy w) hnc (q3 w h.prot), Gh.le_refl G, Fr.refl G ow w, h, rfl, ?_⟩
          simp only [AR]
          exact ⟨r0, tk, base, cap, ht, hver, rfl, hnc, hbs, hbe⟩
        · rename_i h0
          have h0 : ys ≠ [] := by simpa using h0
          simp only [Option.bind_eq_some_iff] at e
          obtain ⟨⟨v', z, cs⟩, hq, e⟩ := e
          simp only at e
          split at e
          · rename_i hc
            obtain ⟨rfl, rfl, hcl, hf⟩ := hc
            simp only [Option.some.injEq, Prod.mk.injEq] at e
            obtain ⟨rfl, rfl⟩ := e
            have hv := rwAt_some hq
            obtain ⟨tk', q1, q2, q3, _⟩ := h.row _ _ _ _ _ hv
            rw [ht] at q1
            cases q1
            obtain ⟨hb1, hb2⟩ := hbe q2.symm
            obtain ⟨r, w', G', ow', tk2, k1, k2, k3, k4, k5, k6, k7, k8, k9⟩ := append_rw (P := P) (ty := ty) h hu hu' hi hv ht hb1 hb2 hcl hpy hzy hf (List.length_pos_iff.mpr h0)
            refine ⟨r, w', G', ow', k1, k2, k3, k4, modMem_length _ _ _, ?_⟩
            simp only [AR]
            exact ⟨r0, tk2, tk2.base, tk2.cap, k5, by omega, k7, k8, k9, fun _ => ⟨rfl, rfl⟩⟩
          · cases e
      · cases e
    · cases e
  · cases e
theorem wrap_ok {n : Int} (h0 : -9223372036854775808 ≤ n) (h1 : n ≤ 9223372036854775807) : IntKind.i64.wrap n = n := by
  simp only [IntKind.wrap, IntKind.bits, IntKind.signed]
  simp
  split <;> omega
theorem amake_sound {G : Gh} {ow : Owner} {st : St} {w : World} (h : RM G ow st.mems w) {dst : Option Tmp} {t : TypeId} {x y z : AV} {v u : Value} {ms' : List Mem} (rx : AR G st.d x v) (ry : AR G st.d y u)
    (e : amake P st dst t x y = some (z, ms')) :
    ∃ r w' G' ow', (Instr.makeSlice t v u).run P w = .ok r w' ∧ G.le G' ∧ Fr G G' ow ow' w w' ∧ RM G' ow' ms' w' ∧ ms'.length = st.mems.length ∧ AR G' st.d z r := by
  unfold amake at e
  split at e
  · rename_i el k n k' m s hu
    cases hi : P.info? el with
    | none => simp [hi] at e
    | some i =>
    simp only [hi] at e
    cases hz : i.zero with
    | none => simp [hz] at e
    | some zv =>
    simp only [hz, Option.bind_eq_some_iff] at e
    obtain ⟨zp, hzp, e⟩ := e
    split at e
    · rename_i hc
      obtain ⟨rfl, h0, hb, hfit, hzs, hnone, hne⟩ := hc
      simp only [Option.some.injEq, Prod.mk.injEq] at e
      obtain ⟨rfl, rfl⟩ := e
      simp only [AR] at rx ry
      cases rx
      cases ry
      have hd : (memAt st.mems st.d).isSome := by
        cases hm : st.mems with
        | nil => exact absurd hm hne
        | cons m ms => simp [memAt, St.d, hm]
      obtain ⟨N, rfl⟩ : ∃ N : Nat, n = (N : Int) := ⟨n.toNat, by omega⟩
      simp only [Int.toNat_natCast] at *
      have hmul := Int.natCast_mul N i.bytes
      have hN : N * i.bytes ≤ 140737488355328 := by omega
      have hN1 : N ≤ 140737488355328 := Nat.le_trans (Nat.le_mul_of_pos_right _ hb) hN
      have hw : IntKind.i64.wrap ((N : Nat) : Int) = ((N : Nat) : Int) := by
        exact wrap_ok (by omega) (by omega)
      have hars := zrow_prs (ARs.leaves (ofVals_sound G st.d zv.cells.toList) hzp) N
      rw [hzs] at hars
      obtain ⟨G', ow', g1, g2, g3, g4⟩ := h.makeRw (n := N) (z := i.size) el hd (by simpa using hnone) (by simp) hars
      refine ⟨.slice (some ⟨w.heap.size, 0, none⟩) N N, _, G', ow', ?_, g1, g2, g3, modMem_length _ _ _, ?_⟩
      · have hs : ∀ w', (sizeOf el).run P w' = .ok i.size w' := run_sizeOf hi
        have ht : ∀ w', (typeInfo el).run P w' = .ok i w' := fun w' => by simp [typeInfo, hi]
        have hzv : ∀ w', (zeroValue el).run P w' = .ok zv w' := fun w' => by simp [zeroValue, typeInfo, hi, hz]
        have hroom : ¬ (N * i.bytes > 2 ^ 47) := by omega
        have hbig : ¬ ((i.bytes : Int) * (N : Int) > 2 ^ 48) := by
          rw [Int.mul_comm, ← hmul]
          omega
        have hneg : ¬ ((N : Int) < 0) := by omega
        by_cases hn0 : N * i.size = 0
        · simp only [Instr.makeSlice, Sem.run_bind, run_underlying hu, Result.andThen_ok, asInt, asIntOf, Sem.run_pure, ht, hw, hneg, hbig, decide_false, Bool.or_false, Bool.false_eq_true, or_self, Int.lt_irrefl, gt_iff_lt, if_false, Int.toNat_natCast, askRoom, roomBytes, hroom, hs, hn0, if_true, newRow, run_newObj]
          have hr0 : Array.range 0 = #[] := rfl
          simp [hn0, pushed, hroom, hr0]
        · simp only [Instr.makeSlice, Sem.run_bind, run_underlying hu, Result.andThen_ok, asInt, asIntOf, Sem.run_pure, ht, hw, hneg, hbig, decide_false, Bool.or_false, Bool.false_eq_true, or_self, Int.lt_irrefl, gt_iff_lt, if_false, Int.toNat_natCast, askRoom, roomBytes, hroom, hs, hn0, hzv, newRow, run_newObj]
          simp [hzs, pushed, hroom]
      · simp only [AR, Option.getD_none]
        refine ⟨Nat.le_refl _, _, some ⟨w.heap.size, 0, none⟩, N, g4, Nat.zero_le _, rfl, Nat.le_refl _, fun _ => ⟨_, rfl⟩, fun _ => ⟨rfl, rfl⟩⟩
    · cases e
  · cases e
end Go.Proofs.Ytjbmdfdgeioecaa.Am
/- The abstract machine, part 11m: maps whose keys are ints. -/
namespace Go.Proofs.Ytjbmdfdgeioecaa.Am
set_option linter.unusedVariables false
set_option linter.unusedSimpArgs false
variable {P : Program}

/-- Where a key stands. -/
def keyIdx (k : IntKind) (n : Int) : List PV → Nat → Option (Option Nat)
  | [], _ => some none
  | .int k' m :: ks, i => if k = k' then (if n = m then some (some i) else keyIdx k n ks (i + 1)) else none
  | _ :: _, _ => none
theorem keyIdx_sound {M : Prot} {k : IntKind} {n : Int} {dk : IntKind} : ∀ (ks : List PV) (es : List MapEntry) (i : Nat) {r : Option Nat}, ks.length = es.length → (∀ (j : Nat) (p : PV) (e : MapEntry), ks[j]? = some p → es[j]? = some e → KR M p e.key) →
    keyIdx k n ks i = some r → Instr.findNow (.int dk) (.int k n) es i = some (r.bind fun j => (es[j - i]?).map fun e => (j, e.val)) ∧ ∀ j, r = some j → i ≤ j ∧ j - i < es.length ∧ ∃ e, es[j - i]? = some e ∧ e.key = .int k n
  | [], [], i, r, _, _, h => by
    simp only [keyIdx, Option.some.injEq] at h
    subst h
    exact ⟨rfl, fun j h => by cases h⟩
  | [], _ :: _, i, r, hl, _, h => by simp at hl
  | _ :: _, [], i, r, hl, _, h => by simp at hl
  | p :: ks, e :: es, i, r, hl, hk, h => by
    have h0 := hk 0 p e (by simp) (by simp)
    cases p with
    | int k' m =>
      simp only [keyIdx] at h
      have h1 : e.key = .int k' m := by
        simp only [KR] at h0
        cases hq : e.key with
        | int a b => rw [hq] at h0; cases h0; rfl
        | _ => rw [hq] at h0; cases h0
      split at h
      · rename_i hkk
        subst hkk
        split at h
        · rename_i hnm
          subst hnm
          simp only [Option.some.injEq] at h
          subst h
          refine ⟨?_, fun j hj => ?_⟩
          · simp [Instr.findNow, h1, Instr.sameNow]
          · cases hj
            exact ⟨Nat.le_refl _, by simp, e, by simp, h1⟩
        · rename_i hnm
          obtain ⟨g1, g2⟩ := keyIdx_sound (M := M) (dk := dk) ks es (i + 1) (by simpa using hl) (fun j p e h1 h2 => hk (j + 1) p e (by simpa using h1) (by simpa using h2)) h
          refine ⟨?_, fun j hj => ?_⟩
          · have hb : (n == m) = false := by simp [hnm]
            simp only [Instr.findNow, h1, Instr.sameNow, if_true, hb, g1]
            cases r with
            | none => rfl
            | some j =>
              obtain ⟨q1, q2, _⟩ := g2 j rfl
              have : j - i = (j - (i + 1)) + 1 := by omega
              simp [this]
          · obtain ⟨q1, q2, e', q3, q4⟩ := g2 j hj
            have : j - i = (j - (i + 1)) + 1 := by omega
            refine ⟨by omega, by simp only [List.length_cons]; omega, e', ?_, q4⟩
            rw [this, List.getElem?_cons_succ]
            exact q3
      · cases h
    | _ => simp [keyIdx] at h

/-- A map variable's entries. -/
def entsAt (ms : List Mem) (d s : Nat) : Option (List PV × List AV) :=
  match varAt ms d s with
  | some [.ments ks xs] => some (ks, xs)
  | _ => none
theorem entsAt_some {ms : List Mem} {d s : Nat} {ks : List PV} {xs : List AV} (h : entsAt ms d s = some (ks, xs)) : varAt ms d s = some [.ments ks xs] := by
  unfold entsAt at h
  split at h
  · rename_i hq
    simp only [Option.some.injEq, Prod.mk.injEq] at h
    obtain ⟨rfl, rfl⟩ := h
    exact hq
  · cases h
def intKeys (P : Program) (t : TypeId) : Option TypeId :=
  match P.underlying t with
  | some (.map kt et) => match P.underlying kt with
    | some (.int _) => some et
    | _ => none
  | _ => none
theorem intKeys_some {t et : TypeId} (h : intKeys P t = some et) : ∃ kt k, P.underlying t = some (.map kt et) ∧ P.underlying kt = some (.int k) := by
  unfold intKeys at h
  split at h
  · rename_i kt et' hu
    split at h
    · rename_i k hk
      simp only [Option.some.injEq] at h
      subst h
      exact ⟨kt, k, hu, hk⟩
    · cases h
  · cases h
def amapGetI (P : Program) (st : St) (t : TypeId) (m k : AV) (ok : Bool) : Option AV :=
  match intKeys P t, m, k with
  | some et, .mref loc s, .pv (.int kk n) =>
    match entsAt st.mems (loc.getD st.d) s with
    | some (ks, xs) => match keyIdx kk n ks 0 with
      | some (some i) => (xs[i]?).map fun x => if ok then .tup [x.from loc, .pv (.bool true)] else x.from loc
      | some none => match (P.info? et).bind (·.zero) with
        | some z => some (if ok then .tup [ofVal z, .pv (.bool false)] else ofVal z)
        | none => none
      | none => none
    | none => none
  | _, _, _ => none
/-- What may lie in an outer frame's variable. -/
def locOK (st : St) (x : AV) : Option Nat → Bool
  | none => true
  | some d => x.closed (d + 1) && decide (d ≤ st.d)
def amapSetI (P : Program) (st : St) (t : TypeId) (m k x : AV) : Option (AV × List Mem) :=
  match intKeys P t, m, k with
  | some _, .mref loc s, .pv (.int kk n) =>
    if locOK st x loc = true then
      match entsAt st.mems (loc.getD st.d) s with
      | some (ks, xs) => match keyIdx kk n ks 0 with
        | some (some i) => some (.junk, setVar st.mems (loc.getD st.d) s [.ments ks (xs.set i x)])
        | some none => some (.junk, setVar st.mems (loc.getD st.d) s [.ments (ks ++ [.int kk n]) (xs ++ [x])])
        | none => none
      | none => none
    else none
  | _, _, _ => none
def amapNew (st : St) (s : Nat) : Option (AV × List Mem) :=
  if (varAt st.mems st.d s).isNone ∧ st.mems ≠ [] then some (.mref none s, setVar st.mems st.d s [.ments [] []]) else none

theorem amapNew_sound {G : Gh} {ow : Owner} {st : St} {w : World} (h : RM G ow st.mems w) {s : Nat} {y : AV} {ms' : List Mem} (he : amapNew st s = some (y, ms')) :
    ∃ G' ow', G.le G' ∧ Fr G G' ow ow' w (pushed w (.map #[] 0)) ∧ RM G' ow' ms' (pushed w (.map #[] 0)) ∧ ms'.length = st.mems.length ∧ AR G' st.d y (.map (some w.heap.size)) := by
  unfold amapNew at he
  split at he
  · rename_i hc
    simp only [Option.some.injEq, Prod.mk.injEq] at he
    obtain ⟨rfl, rfl⟩ := he
    have hd : (memAt st.mems st.d).isSome := by
      cases hm : st.mems with
      | nil => exact absurd hm hc.2
      | cons m ms => simp [memAt, St.d, hm]
    obtain ⟨h1, h2, h3⟩ := h.newVar (cs := [.ments [] []]) (ob := .map #[] 0) hd (by simpa using hc.1) (.inr ⟨[], [], #[], 0, rfl, rfl, rfl, by simp, by simp [ARs], by simp [Born]⟩)
    refine ⟨_, _, h2, h3, h1, modMem_length _ _ _, ?_⟩
    simp only [AR, Option.getD_none]
    exact ⟨Nat.le_refl _, w.heap.size, by simp [Gh.var], rfl⟩
  · cases he
theorem run_checkKey_int {kt : TypeId} {k : IntKind} (hk : P.underlying kt = some (.int k)) (b : Bool) (v : Value) (w : World) : (Instr.checkKey b 10000 kt v).run P w = .ok () w := by
  show (Instr.checkKey b (9999 + 1) kt v).run P w = _
  unfold Instr.checkKey
  simp [run_underlying hk]
theorem run_findKey_int {kt : TypeId} {k : IntKind} (hk : P.underlying kt = some (.int k)) {v : Value} {es : List MapEntry} {r : Option (Nat × Value)} (h : Instr.findNow (.int k) v es 0 = some r) (w : World) : (Instr.findKey kt v es).run P w = .ok r w := by
  unfold Instr.findKey
  simp [run_underlying hk, h]
theorem amapGetI_sound {G : Gh} {ow : Owner} {st : St} {w : World} (h : RM G ow st.mems w) {t : TypeId} {m k y : AV} {vm vk : Value} {ok : Bool} (rm : AR G st.d m vm) (rk : AR G st.d k vk) (e : amapGetI P st t m k ok = some y) :
    ∃ v, (Instr.lookup t vm vk ok).run P w = .ok v w ∧ AR G st.d y v := by
  unfold amapGetI at e
  split at e
  · rename_i et loc s kk n hik
    obtain ⟨kt, dk, hu, hkt⟩ := intKeys_some hik
    split at e
    · rename_i ks xs hes
      obtain ⟨b, ob, h1, h2, h3, h4, h5⟩ := h.var _ _ _ (entsAt_some hes) rfl
      simp only [AR] at rm rk
      obtain ⟨r0, b', hb', rfl⟩ := rm
      rw [h1] at hb'
      cases hb'
      cases rk
      rcases h4 with ⟨vs, el, _, hbad⟩ | ⟨ks', xs', es, clock, hcs, rfl, hlen, hkr, hxs, hbn⟩
      · simp only [ARs, AR] at hbad
        obtain ⟨_, _, _, hf, _⟩ := hbad
        exact hf.elim
      simp only [List.cons.injEq, AV.ments.injEq, and_true] at hcs
      obtain ⟨rfl, rfl⟩ := hcs
      have hrun : ∀ {r : Option Nat}, keyIdx kk n ks 0 = some r → (Instr.findKey kt (.int kk n) es.toList).run P w = .ok (r.bind fun j => (es.toList[j - 0]?).map fun e => (j, e.val)) w ∧ ∀ j, r = some j → 0 ≤ j ∧ j - 0 < es.toList.length ∧ ∃ e, es.toList[j - 0]? = some e ∧ e.key = .int kk n := fun hq => by
        obtain ⟨g1, g2⟩ := keyIdx_sound (M := G.M) (dk := dk) ks es.toList 0 (by simpa using hlen) (fun j p e a b => hkr j p e a (by simpa using b)) hq
        exact ⟨run_findKey_int hkt g1 w, g2⟩
      have hres : ∀ (v : Value) (okv : Bool), (∃ r, (Instr.findKey kt (.int kk n) es.toList).run P w = .ok r w ∧ (match r with | some (_, u) => u = v ∧ okv = true | none => (zeroValue et).run P w = .ok v w ∧ okv = false)) →
          (Instr.lookup t (.map (some b)) (.int kk n) ok).run P w = .ok (if ok then .tuple #[v, .bool okv] else v) w := by
        intro v okv ⟨r, hr, hm⟩
        unfold Instr.lookup
        simp only [Sem.run_bind, run_underlying hu, Result.andThen_ok, getObj, Sem.run, h3, Sem.run_pure, run_checkKey_int hkt, hr]
        cases r with
        | none => obtain ⟨hz, rfl⟩ := hm; simp [hz]
        | some p => obtain ⟨rfl, rfl⟩ := hm; simp
      split at e
      · rename_i i hi
        obtain ⟨g1, g2⟩ := hrun hi
        obtain ⟨_, hlt, ent, hent, _⟩ := g2 i rfl
        simp only [Nat.sub_zero] at hent hlt
        simp only [Option.map_eq_some_iff] at e
        obtain ⟨x, hx, rfl⟩ := e
        obtain ⟨v, hv, hr⟩ := hxs.get hx
        have hval : v = ent.val := by
          rw [List.getElem?_map, hent] at hv
          simpa using hv.symm
        subst hval
        have hr' : AR G st.d (x.from loc) ent.val := by
          cases loc with
          | none => exact hr
          | some d => exact AR.reloc (by simpa using r0) hr
        have hent' : es[i]? = some ent := by simpa using hent
        refine ⟨_, hres ent.val true ⟨_, g1, by simp [hent']⟩, ?_⟩
        cases ok
        · simpa using hr'
        · simp only [if_true, AR]
          exact ⟨#[ent.val, .bool true], rfl, by simp only [ARs]; exact ⟨_, _, rfl, hr', _, _, rfl, by simp only [AR]; exact .bool _, rfl⟩⟩
      · rename_i hi
        obtain ⟨g1, _⟩ := hrun hi
        split at e
        · rename_i z hz
          simp only [Option.some.injEq] at e
          subst e
          have hzv : (zeroValue et).run P w = .ok z w := by
            simp only [Option.bind_eq_some_iff] at hz
            obtain ⟨i, hi, hz⟩ := hz
            simp [zeroValue, typeInfo, hi, hz]
          refine ⟨_, hres z false ⟨_, g1, hzv, rfl⟩, ?_⟩
          cases ok
          · exact ofVal_sound G st.d z
          · simp only [if_true, AR]
            exact ⟨#[z, .bool false], rfl, by simp only [ARs]; exact ⟨_, _, rfl, ofVal_sound G st.d z, _, _, rfl, by simp only [AR]; exact .bool _, rfl⟩⟩
        · cases e
      · cases e
    · cases e
  · cases e
theorem amapSetI_sound {G : Gh} {ow : Owner} {st : St} {w : World} (h : RM G ow st.mems w) {t : TypeId} {m k x y : AV} {vm vk vx : Value} {ms' : List Mem} (rm : AR G st.d m vm) (rk : AR G st.d k vk) (rx : AR G st.d x vx)
    (e : amapSetI P st t m k x = some (y, ms')) : ∃ w', (Instr.mapUpdate t vm vk vx).run P w = .ok () w' ∧ Fr G G ow ow w w' ∧ RM G ow ms' w' ∧ ms'.length = st.mems.length ∧ y = .junk := by
  unfold amapSetI at e
  split at e
  · rename_i et loc s kk n hik
    obtain ⟨kt, dk, hu, hkt⟩ := intKeys_some hik
    split at e
    · rename_i hcl
      split at e
      · rename_i ks xs hes
        have hvar := entsAt_some hes
        obtain ⟨b, ob, h1, h2, h3, h4, h5⟩ := h.var _ _ _ hvar rfl
        simp only [AR] at rm rk
        obtain ⟨r0, b', hb', rfl⟩ := rm
        rw [h1] at hb'
        cases hb'
        cases rk
        have rx' : AR G (loc.getD st.d) x vx := by
          cases loc with
          | none => exact rx
          | some d =>
            simp only [locOK, Bool.and_eq_true, decide_eq_true_eq] at hcl
            exact AR.closed (k := d + 1) (G' := G) ⟨Prot.le_refl _, fun _ _ _ _ h => h, fun _ _ t _ h => ⟨t, h, t.le_refl⟩, fun _ _ t _ h => ⟨t, h, t.le_refl⟩⟩ (Nat.le_refl _) rx hcl.1
        rcases h4 with ⟨vs, el, _, hbad⟩ | ⟨ks', xs', es, clock, hcs, rfl, hlen, hkr, hxs, hbn⟩
        · simp only [ARs, AR] at hbad
          obtain ⟨_, _, _, hf, _⟩ := hbad
          exact hf.elim
        simp only [List.cons.injEq, AV.ments.injEq, and_true] at hcs
        obtain ⟨rfl, rfl⟩ := hcs
        have hxl : xs.length = es.size := by have := hxs.length; simpa using this
        split at e
        · rename_i i hi
          simp only [Option.some.injEq, Prod.mk.injEq] at e
          obtain ⟨rfl, rfl⟩ := e
          obtain ⟨g1, g2⟩ := keyIdx_sound (M := G.M) (dk := dk) ks es.toList 0 (by simpa using hlen) (fun j p e a b => hkr j p e a (by simpa using b)) hi
          obtain ⟨_, hlt, ent, hent, hkey⟩ := g2 i rfl
          simp only [Nat.sub_zero] at hent hlt
          have hent' : es[i]? = some ent := by simpa using hent
          have hfind := run_findKey_int hkt g1 w
          obtain ⟨k1, k2⟩ := h.put (ob' := .map (es.modify i fun e => { e with key := .int kk n, val := vx }) clock) (cs' := [.ments ks (xs.set i x)]) hvar rfl h1
            (.inr ⟨ks, xs.set i x, es.modify i fun e => { e with key := .int kk n, val := vx }, clock, rfl, rfl, by simp [hlen], fun j p e' hj he' => by
              rw [Array.getElem?_modify] at he'
              split at he'
              · rename_i hij
                subst hij
                rw [hent'] at he'
                simp only [Option.map_some, Option.some.injEq] at he'
                subst he'
                have := hkr i p ent hj hent'
                rw [hkey] at this
                exact this
              · exact hkr j p e' hj he', by
              have : ((es.modify i fun e => { e with key := .int kk n, val := vx }).toList.map (·.val)) = (es.toList.map (·.val)).set i vx := by
                apply List.ext_getElem?
                intro j
                rw [List.getElem?_map, Array.getElem?_toList, Array.getElem?_modify, List.getElem?_set, List.getElem?_map, Array.getElem?_toList]
                by_cases hij : i = j
                · subst hij
                  have := (Array.getElem?_eq_some_iff.mp hent').1
                  simp [hent', this]
                · simp [hij]
              rw [this]
              exact ARs.set i hxs rx', by
              have hb : (es.modify i fun e => { e with key := .int kk n, val := vx }).toList.map (·.born) = es.toList.map (·.born) := by
                apply List.ext_getElem?
                intro j
                rw [List.getElem?_map, Array.getElem?_toList, Array.getElem?_modify, List.getElem?_map, Array.getElem?_toList]
                split
                · cases es[j]? <;> rfl
                · rfl
              refine ⟨fun x hx => ?_, by rw [hb]; exact hbn.2⟩
              have : x.born ∈ es.toList.map (·.born) := by rw [← hb]; exact List.mem_map_of_mem hx
              obtain ⟨y, hy, he⟩ := List.mem_map.mp this
              rw [← he]
              exact hbn.1 y hy⟩)
          refine ⟨_, ?_, k2, k1, modMem_length _ _ _, rfl⟩
          unfold Instr.mapUpdate
          simp only [Sem.run_bind, run_underlying hu, Result.andThen_ok, getObj, Sem.run, h3, Sem.run_pure, run_checkKey_int hkt, hfind, Option.bind_some, Nat.sub_zero, hent, Option.map_some, hent', Option.getD_some, hkey]
          simp [Instr.keyThatStays, Instr.sameBits, setObj, Sem.run, h3, putObj]
        · rename_i hi
          simp only [Option.some.injEq, Prod.mk.injEq] at e
          obtain ⟨rfl, rfl⟩ := e
          obtain ⟨g1, _⟩ := keyIdx_sound (M := G.M) (dk := dk) ks es.toList 0 (by simpa using hlen) (fun j p e a b => hkr j p e a (by simpa using b)) hi
          have hfind := run_findKey_int hkt g1 w
          obtain ⟨k1, k2⟩ := h.put (ob' := .map (es.push { key := .int kk n, val := vx, born := clock }) (clock + 1)) (cs' := [.ments (ks ++ [.int kk n]) (xs ++ [x])]) hvar rfl h1
            (.inr ⟨ks ++ [.int kk n], xs ++ [x], es.push { key := .int kk n, val := vx, born := clock }, clock + 1, rfl, rfl, by simp [hlen], fun j p e' hj he' => by
              rw [Array.getElem?_push] at he'
              split at he'
              · rename_i hij
                subst hij
                simp only [Option.some.injEq] at he'
                subst he'
                rw [List.getElem?_append_right (by omega)] at hj
                simp [hlen] at hj
                subst hj
                exact .int _ _
              · rename_i hij
                have hlt := (Array.getElem?_eq_some_iff.mp he').1
                rw [List.getElem?_append_left (by omega)] at hj
                exact hkr j p e' hj he', by
              rw [Array.toList_push, List.map_append]
              exact hxs.append (by simp only [List.map_cons, List.map_nil, ARs]; exact ⟨_, _, rfl, rx', rfl⟩), hbn.push _ _⟩)
          refine ⟨_, ?_, k2, k1, modMem_length _ _ _, rfl⟩
          unfold Instr.mapUpdate
          simp only [Sem.run_bind, run_underlying hu, Result.andThen_ok, getObj, Sem.run, h3, Sem.run_pure, run_checkKey_int hkt, hfind, Option.bind_none]
          simp [setObj, Sem.run, h3, putObj]
        · cases e
      · cases e
    · cases e
  · cases e
end Go.Proofs.Ytjbmdfdgeioecaa.Am
/- The abstract machine, part 11k: maps whose keys are structs. -/
namespace Go.Proofs.Ytjbmdfdgeioecaa.Am
set_option linter.unusedVariables false
set_option linter.unusedSimpArgs false
variable {P : Program}

def flatP : PV → Bool
  | .int _ _ => true
  | .bool _ => true
  | .str _ => true
  | _ => false
theorem PRs.flat_eq {M : Prot} {ps : List PV} {vs : List Value} (h : PRs M ps vs) (hf : ps.all flatP = true) : vs = ps.map pvVal := by
  induction h with
  | nil => rfl
  | cons h1 _ ih =>
    simp only [List.all_cons, Bool.and_eq_true] at hf
    rw [List.map_cons, ih hf.2]
    congr 1
    cases h1 <;> first | rfl | (have := hf.1; simp [flatP] at this)
/-- A key's literals. -/
def keyL (P : Program) (kt : TypeId) (ps : List PV) : Option (List Lit) := P.keyLits 4 kt (ps.map pvVal)
def flatL : Lit → Bool
  | .bool _ => true
  | .int _ _ => true
  | .string _ => true
  | _ => false
def sameL : Lit → Lit → Bool
  | .bool a, .bool b => a == b
  | .int k a, .int k' b => k == k' && a == b
  | .string a, .string b => a == b
  | _, _ => false
def sameLs : List Lit → List Lit → Bool
  | [], [] => true
  | a :: l, b :: l' => sameL a b && sameLs l l'
  | _, _ => false
theorem sameL_iff {a b : Lit} (h : flatL a = true) : sameL a b = true ↔ a = b := by
  cases a <;> simp [flatL] at h <;> cases b <;> simp [sameL]
theorem sameLs_iff : ∀ {l l' : List Lit}, l.all flatL = true → (sameLs l l' = true ↔ l = l')
  | [], [], _ => by simp [sameLs]
  | [], _ :: _, _ => by simp [sameLs]
  | _ :: _, [], _ => by simp [sameLs]
  | a :: l, b :: l', h => by
    simp only [List.all_cons, Bool.and_eq_true] at h
    simp only [sameLs, Bool.and_eq_true, sameL_iff h.1, sameLs_iff h.2, List.cons.injEq]
def keyIdxS (P : Program) (kt : TypeId) (L : List Lit) : List PV → Nat → Option (Option Nat)
  | [], _ => some none
  | .agg qs :: ks, i => match keyL P kt qs with
    | some L' => if qs.length = P.cellsOf kt then (if sameLs L L' = true then some (some i) else keyIdxS P kt L ks (i + 1)) else none
    | none => none
  | _ :: _, _ => none
def strKeys (P : Program) (t : TypeId) : Option (TypeId × TypeId) :=
  match P.underlying t with
  | some (.map kt et) => match P.underlying kt with
    | some (.struct _) => if P.keyTypeAt 4 kt = true then some (kt, et) else none
    | _ => none
  | _ => none
theorem strKeys_some {t kt et : TypeId} (h : strKeys P t = some (kt, et)) : P.underlying t = some (.map kt et) ∧ (∃ fs, P.underlying kt = some (.struct fs)) ∧ P.keyTypeAt 4 kt = true := by
  unfold strKeys at h
  split at h
  · rename_i kt' et' hu
    split at h
    · rename_i fs hk
      split at h
      · rename_i hb
        simp only [Option.some.injEq, Prod.mk.injEq] at h
        obtain ⟨rfl, rfl⟩ := h
        exact ⟨hu, ⟨fs, hk⟩, hb⟩
      · cases h
    · cases h
  · cases h
def amapGetS (P : Program) (st : St) (t : TypeId) (m : AV) (cs : List AV) (ok : Bool) : Option AV :=
  match strKeys P t, m, leaves? cs with
  | some (kt, et), .mref loc s, some ps =>
    if ps.all flatP = true ∧ ps.length = P.cellsOf kt then
      match keyL P kt ps, entsAt st.mems (loc.getD st.d) s with
      | some L, some (ks, xs) => if L.all flatL = true then match keyIdxS P kt L ks 0 with
        | some (some i) => (xs[i]?).map fun x => if ok then .tup [x.from loc, .pv (.bool true)] else x.from loc
        | some none => match (P.info? et).bind (·.zero) with
          | some z => some (if ok then .tup [ofVal z, .pv (.bool false)] else ofVal z)
          | none => none
        | none => none
        else none
      | _, _ => none
    else none
  | _, _, _ => none
/-- A new key's entry. -/
def amapSetS (P : Program) (st : St) (t : TypeId) (m : AV) (cs : List AV) (x : AV) : Option (AV × List Mem) :=
  match strKeys P t, m, leaves? cs with
  | some (kt, et), .mref loc s, some ps =>
    if ps.all flatP = true ∧ ps.length = P.cellsOf kt ∧ locOK st x loc = true then
      match keyL P kt ps, entsAt st.mems (loc.getD st.d) s with
      | some L, some (ks, xs) => if L.all flatL = true then match keyIdxS P kt L ks 0 with
        | some none => some (.junk, setVar st.mems (loc.getD st.d) s [.ments (ks ++ [.agg ps]) (xs ++ [x])])
        | _ => none
        else none
      | _, _ => none
    else none
  | _, _, _ => none

theorem formedS {kt : TypeId} {fs : Array Field} (hk : P.underlying kt = some (.struct fs)) {vs : Array Value} (h : vs.toList.length = P.cellsOf kt) : (Value.agg vs).formed P kt = true := by
  simp [Value.formed, hk, ← h]
theorem eqS {kt : TypeId} {fs : Array Field} (hk : P.underlying kt = some (.struct fs)) (hkt : P.keyTypeAt 4 kt = true) (w : World) {vs us : Array Value} {L L' : List Lit} (h1 : vs.toList.length = P.cellsOf kt) (h2 : us.toList.length = P.cellsOf kt)
    (e1 : P.keyLits 4 kt vs.toList = some L) (e2 : P.keyLits 4 kt us.toList = some L') : ∃ r : Bool, (Op.equal kt (.agg vs) (.agg us)).run P w = .ok r w ∧ (r = true ↔ L = L') :=
  run_equalIn_deep 9996 4 kt hkt w 4 4 (.agg vs) (.agg us) L L' (formedS hk h1) (formedS hk h2) e1 e2
theorem keyIdxS_sound {M : Prot} {kt : TypeId} {fs : Array Field} (hk : P.underlying kt = some (.struct fs)) (hkt : P.keyTypeAt 4 kt = true) (w : World) {vs : Array Value} {L : List Lit} (hl : vs.toList.length = P.cellsOf kt) (he : P.keyLits 4 kt vs.toList = some L) (hfL : L.all flatL = true) :
    ∀ (ks : List PV) (es : List MapEntry) (i : Nat) {r : Option Nat}, ks.length = es.length → (∀ (j : Nat) (p : PV) (e : MapEntry), ks[j]? = some p → es[j]? = some e → KR M p e.key) → keyIdxS P kt L ks i = some r →
    (Instr.findAsking kt (.agg vs) es i).run P w = .ok (r.bind fun j => (es[j - i]?).map fun e => (j, e.val)) w ∧ ∀ j, r = some j → i ≤ j ∧ j - i < es.length ∧ ∃ e, es[j - i]? = some e
  | [], [], i, r, _, _, h => by
    simp only [keyIdxS, Option.some.injEq] at h
    subst h
    exact ⟨by simp [Instr.findAsking], fun j h => by cases h⟩
  | [], _ :: _, i, r, hl, _, h => by simp at hl
  | _ :: _, [], i, r, hl, _, h => by simp at hl
  | .agg qs :: ks, e :: es, i, r, hlen, hkr, h => by
    have h0 := hkr 0 (.agg qs) e (by simp) (by simp)
    obtain ⟨us, hu, hus⟩ := h0
    simp only [keyIdxS] at h
    cases hq : keyL P kt qs with
    | none => simp [hq] at h
    | some L' =>
      simp only [hq] at h
      split at h
      · rename_i hql
        obtain ⟨q, g1, g2⟩ := eqS hk hkt w (vs := vs) (us := us) hl (by rw [hus, List.length_map]; exact hql) he (by rw [hus]; exact hq)
        split at h
        · rename_i hLL
          simp only [Option.some.injEq] at h
          subst h
          have hq' : q = true := g2.2 ((sameLs_iff hfL).1 hLL)
          subst hq'
          refine ⟨by simp [Instr.findAsking, hu, g1], fun j hj => ?_⟩
          cases hj
          exact ⟨Nat.le_refl _, by simp, e, by simp⟩
        · rename_i hLL
          have hq' : q = false := by cases q with | false => rfl | true => exact absurd ((sameLs_iff hfL).2 (g2.1 rfl)) hLL
          subst hq'
          obtain ⟨k1, k2⟩ := keyIdxS_sound (M := M) hk hkt w hl he hfL ks es (i + 1) (by simpa using hlen) (fun j p e a b => hkr (j + 1) p e (by simpa using a) (by simpa using b)) h
          refine ⟨?_, fun j hj => ?_⟩
          · simp only [Instr.findAsking, hu, Sem.run_bind, g1, Result.andThen_ok, Bool.false_eq_true, if_false, k1]
            cases r with
            | none => rfl
            | some j =>
              obtain ⟨q1, q2, _⟩ := k2 j rfl
              have : j - i = (j - (i + 1)) + 1 := by omega
              simp [this]
          · obtain ⟨q1, q2, e', q3⟩ := k2 j hj
            have : j - i = (j - (i + 1)) + 1 := by omega
            refine ⟨by omega, by simp only [List.length_cons]; omega, e', ?_⟩
            rw [this, List.getElem?_cons_succ]
            exact q3
      · cases h
  | .int _ _ :: _, _ :: _, i, r, _, _, h => by simp [keyIdxS] at h
  | .bool _ :: _, _ :: _, i, r, _, _, h => by simp [keyIdxS] at h
  | .str _ :: _, _ :: _, i, r, _, _, h => by simp [keyIdxS] at h
  | .slc _ :: _, _ :: _, i, r, _, _, h => by simp [keyIdxS] at h
theorem checkS {kt : TypeId} {fs : Array Field} (hk : P.underlying kt = some (.struct fs)) (hkt : P.keyTypeAt 4 kt = true) (w : World) (b : Bool) {vs : Array Value} {L : List Lit} (hl : vs.toList.length = P.cellsOf kt) (he : P.keyLits 4 kt vs.toList = some L) :
    (Instr.checkKey b 10000 kt (.agg vs)).run P w = .ok () w := run_checkKey_deep b 9996 4 kt hkt w 4 (.agg vs) L (formedS hk hl) he

theorem amapGetS_sound {G : Gh} {ow : Owner} {st : St} {w : World} (h : RM G ow st.mems w) {t : TypeId} {m y : AV} {cs : List AV} {vm vk : Value} {ok : Bool} (rm : AR G st.d m vm) (rk : AR G st.d (.agg cs) vk) (e : amapGetS P st t m cs ok = some y) :
    ∃ v, (Instr.lookup t vm vk ok).run P w = .ok v w ∧ AR G st.d y v := by
  unfold amapGetS at e
  split at e
  · rename_i kt et loc s ps hsk hps
    obtain ⟨hu, ⟨fs, hk⟩, hkt⟩ := strKeys_some hsk
    split at e
    · rename_i hfl
      obtain ⟨hfl, hlen0⟩ := hfl
      simp only [AR] at rk
      obtain ⟨vs, rfl, rk⟩ := rk
      have hvs := (ARs.leaves rk hps).flat_eq hfl
      split at e
      · rename_i L ks xs hL hes
        split at e
        case isFalse => cases e
        rename_i hfL
        have hlen : vs.toList.length = P.cellsOf kt := by rw [hvs, List.length_map, hlen0]
        have he : P.keyLits 4 kt vs.toList = some L := by rw [hvs]; exact hL
        obtain ⟨b, ob, h1, h2, h3, h4, h5⟩ := h.var _ _ _ (entsAt_some hes) rfl
        simp only [AR] at rm
        obtain ⟨r0, b', hb', rfl⟩ := rm
        rw [h1] at hb'
        cases hb'
        rcases h4 with ⟨vs', el, _, hbad⟩ | ⟨ks', xs', es, clock, hcs, rfl, hkl, hkr, hxs, hbn⟩
        · simp only [ARs, AR] at hbad
          obtain ⟨_, _, _, hf, _⟩ := hbad
          exact hf.elim
        simp only [List.cons.injEq, AV.ments.injEq, and_true] at hcs
        obtain ⟨rfl, rfl⟩ := hcs
        have hrun : ∀ {r : Option Nat}, keyIdxS P kt L ks 0 = some r → (Instr.findKey kt (.agg vs) es.toList).run P w = .ok (r.bind fun j => (es.toList[j - 0]?).map fun e => (j, e.val)) w ∧ ∀ j, r = some j → 0 ≤ j ∧ j - 0 < es.toList.length ∧ ∃ e, es.toList[j - 0]? = some e := fun hq => by
          obtain ⟨g1, g2⟩ := keyIdxS_sound (M := G.M) hk hkt w hlen he hfL ks es.toList 0 (by simpa using hkl) (fun j p e a b => hkr j p e a (by simpa using b)) hq
          exact ⟨by rw [run_findKey_eq w (by rw [hk])]; exact g1, g2⟩
        have hres : ∀ (v : Value) (okv : Bool), (∃ r, (Instr.findKey kt (.agg vs) es.toList).run P w = .ok r w ∧ (match r with | some (_, u) => u = v ∧ okv = true | none => (zeroValue et).run P w = .ok v w ∧ okv = false)) →
            (Instr.lookup t (.map (some b)) (.agg vs) ok).run P w = .ok (if ok then .tuple #[v, .bool okv] else v) w := by
          intro v okv ⟨r, hr, hm⟩
          unfold Instr.lookup
          simp only [Sem.run_bind, run_underlying hu, Result.andThen_ok, getObj, Sem.run, h3, Sem.run_pure, checkS hk hkt w _ hlen he, hr]
          cases r with
          | none => obtain ⟨hz, rfl⟩ := hm; simp [hz]
          | some p => obtain ⟨rfl, rfl⟩ := hm; simp
        split at e
        · rename_i i hi
          obtain ⟨g1, g2⟩ := hrun hi
          obtain ⟨_, hlt, ent, hent⟩ := g2 i rfl
          simp only [Nat.sub_zero] at hent hlt
          simp only [Option.map_eq_some_iff] at e
          obtain ⟨x, hx, rfl⟩ := e
          obtain ⟨v, hv, hr⟩ := hxs.get hx
          have hval : v = ent.val := by
            rw [List.getElem?_map, hent] at hv
            simpa using hv.symm
          subst hval
          have hr' : AR G st.d (x.from loc) ent.val := AR.from r0 hr
          have hent' : es[i]? = some ent := by simpa using hent
          refine ⟨_, hres ent.val true ⟨_, g1, by simp [hent']⟩, ?_⟩
          cases ok
          · simpa using hr'
          · simp only [if_true, AR]
            exact ⟨#[ent.val, .bool true], rfl, by simp only [ARs]; exact ⟨_, _, rfl, hr', _, _, rfl, by simp only [AR]; exact .bool _, rfl⟩⟩
        · rename_i hi
          obtain ⟨g1, _⟩ := hrun hi
          split at e
          · rename_i z hz
            simp only [Option.some.injEq] at e
            subst e
            have hzv : (zeroValue et).run P w = .ok z w := by
              simp only [Option.bind_eq_some_iff] at hz
              obtain ⟨i, hi, hz⟩ := hz
              simp [zeroValue, typeInfo, hi, hz]
            refine ⟨_, hres z false ⟨_, g1, hzv, rfl⟩, ?_⟩
            cases ok
            · exact ofVal_sound G st.d z
            · simp only [if_true, AR]
              exact ⟨#[z, .bool false], rfl, by simp only [ARs]; exact ⟨_, _, rfl, ofVal_sound G st.d z, _, _, rfl, by simp only [AR]; exact .bool _, rfl⟩⟩
          · cases e
        · cases e
      · cases e
    · cases e
  · cases e
theorem amapSetS_sound {G : Gh} {ow : Owner} {st : St} {w : World} (h : RM G ow st.mems w) {t : TypeId} {m x y : AV} {cs : List AV} {vm vk vx : Value} {ms' : List Mem} (rm : AR G st.d m vm) (rk : AR G st.d (.agg cs) vk) (rx : AR G st.d x vx)
    (e : amapSetS P st t m cs x = some (y, ms')) : ∃ w', (Instr.mapUpdate t vm vk vx).run P w = .ok () w' ∧ Fr G G ow ow w w' ∧ RM G ow ms' w' ∧ ms'.length = st.mems.length ∧ y = .junk := by
  unfold amapSetS at e
  split at e
  · rename_i kt et loc s ps hsk hps
    obtain ⟨hu, ⟨fs, hk⟩, hkt⟩ := strKeys_some hsk
    split at e
    · rename_i hfl
      obtain ⟨hfl, hlen0, hcl⟩ := hfl
      simp only [AR] at rk
      obtain ⟨vs, rfl, rk⟩ := rk
      have hvs := (ARs.leaves rk hps).flat_eq hfl
      split at e
      · rename_i L ks xs hL hes
        split at e
        case isFalse => cases e
        rename_i hfL
        have hlen : vs.toList.length = P.cellsOf kt := by rw [hvs, List.length_map, hlen0]
        have he : P.keyLits 4 kt vs.toList = some L := by rw [hvs]; exact hL
        have hvar := entsAt_some hes
        obtain ⟨b, ob, h1, h2, h3, h4, h5⟩ := h.var _ _ _ hvar rfl
        simp only [AR] at rm
        obtain ⟨r0, b', hb', rfl⟩ := rm
        rw [h1] at hb'
        cases hb'
        have rx' : AR G (loc.getD st.d) x vx := by
          cases loc with
          | none => exact rx
          | some d =>
            simp only [locOK, Bool.and_eq_true, decide_eq_true_eq] at hcl
            exact AR.closed (k := d + 1) (G' := G) ⟨Prot.le_refl _, fun _ _ _ _ h => h, fun _ _ t _ h => ⟨t, h, t.le_refl⟩, fun _ _ t _ h => ⟨t, h, t.le_refl⟩⟩ (Nat.le_refl _) rx hcl.1
        rcases h4 with ⟨vs', el, _, hbad⟩ | ⟨ks', xs', es, clock, hcs, rfl, hkl, hkr, hxs, hbn⟩
        · simp only [ARs, AR] at hbad
          obtain ⟨_, _, _, hf, _⟩ := hbad
          exact hf.elim
        simp only [List.cons.injEq, AV.ments.injEq, and_true] at hcs
        obtain ⟨rfl, rfl⟩ := hcs
        split at e
        · rename_i hi
          simp only [Option.some.injEq, Prod.mk.injEq] at e
          obtain ⟨rfl, rfl⟩ := e
          obtain ⟨g1, _⟩ := keyIdxS_sound (M := G.M) hk hkt w hlen he hfL ks es.toList 0 (by simpa using hkl) (fun j p e a b => hkr j p e a (by simpa using b)) hi
          have hfind : (Instr.findKey kt (.agg vs) es.toList).run P w = .ok none w := by rw [run_findKey_eq w (by rw [hk])]; exact g1
          obtain ⟨k1, k2⟩ := h.put (ob' := .map (es.push { key := .agg vs, val := vx, born := clock }) (clock + 1)) (cs' := [.ments (ks ++ [.agg ps]) (xs ++ [x])]) hvar rfl h1
            (.inr ⟨ks ++ [.agg ps], xs ++ [x], es.push { key := .agg vs, val := vx, born := clock }, clock + 1, rfl, rfl, by simp [hkl], fun j p e' hj he' => by
              rw [Array.getElem?_push] at he'
              split at he'
              · rename_i hij
                subst hij
                simp only [Option.some.injEq] at he'
                subst he'
                rw [List.getElem?_append_right (by omega)] at hj
                simp [hkl] at hj
                subst hj
                exact ⟨vs, rfl, hvs⟩
              · rename_i hij
                have hlt := (Array.getElem?_eq_some_iff.mp he').1
                rw [List.getElem?_append_left (by omega)] at hj
                exact hkr j p e' hj he', by
              rw [Array.toList_push, List.map_append]
              exact hxs.append (by simp only [List.map_cons, List.map_nil, ARs]; exact ⟨_, _, rfl, rx', rfl⟩), hbn.push _ _⟩)
          refine ⟨_, ?_, k2, k1, modMem_length _ _ _, rfl⟩
          unfold Instr.mapUpdate
          simp only [Sem.run_bind, run_underlying hu, Result.andThen_ok, getObj, Sem.run, h3, Sem.run_pure, checkS hk hkt w _ hlen he, hfind]
          simp [setObj, Sem.run, h3, putObj]
        · cases e
      · cases e
    · cases e
  · cases e
/-- A map's entry, whatever its keys are. -/
def amapGet (P : Program) (st : St) (t : TypeId) (m k : AV) (ok : Bool) : Option AV :=
  match k with
  | .agg cs => amapGetS P st t m cs ok
  | k => amapGetI P st t m k ok
def amapSet (P : Program) (st : St) (t : TypeId) (m k x : AV) : Option (AV × List Mem) :=
  match k with
  | .agg cs => amapSetS P st t m cs x
  | k => amapSetI P st t m k x
theorem amapGet_sound {G : Gh} {ow : Owner} {st : St} {w : World} (h : RM G ow st.mems w) {t : TypeId} {m k y : AV} {vm vk : Value} {ok : Bool} (rm : AR G st.d m vm) (rk : AR G st.d k vk) (e : amapGet P st t m k ok = some y) :
    ∃ v, (Instr.lookup t vm vk ok).run P w = .ok v w ∧ AR G st.d y v := by
  unfold amapGet at e
  split at e
  · exact amapGetS_sound h rm rk e
  · exact amapGetI_sound h rm rk e
theorem amapSet_sound {G : Gh} {ow : Owner} {st : St} {w : World} (h : RM G ow st.mems w) {t : TypeId} {m k x y : AV} {vm vk vx : Value} {ms' : List Mem} (rm : AR G st.d m vm) (rk : AR G st.d k vk) (rx : AR G st.d x vx)
    (e : amapSet P st t m k x = some (y, ms')) : ∃ w', (Instr.mapUpdate t vm vk vx).run P w = .ok () w' ∧ Fr G G ow ow w w' ∧ RM G ow ms' w' ∧ ms'.length = st.mems.length ∧ y = .junk := by
  unfold amapSet at e
  split at e
  · exact amapSetS_sound h rm rk rx e
  · exact amapSetI_sound h rm rk rx e
end Go.Proofs.Ytjbmdfdgeioecaa.Am
