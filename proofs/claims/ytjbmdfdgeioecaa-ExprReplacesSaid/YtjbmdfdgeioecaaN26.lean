/- How the arguments read. -/
import Derived.Test.YtjbmdfdgeioecaaN0
namespace Go.Proofs.Ytjbmdfdgeioecaa.X
open Go.Proofs.Ytjbmdfdgeioecaa.Am Go.Proofs.Ytjbmdfdgeioecaa.F
set_option linter.unusedVariables false
set_option linter.unusedSimpArgs false
set_option maxRecDepth 100000
theorem rpInt (n : Nat) : Rp Try.prog n 3 (PV.int .i64) 1 (fun x => (Lit.int .i64 x).wf = true) := Rp.int Try.underlying3 (by kernel_rfl)
theorem rpStr (n : Nat) : Rp Try.prog n 9 PV.str 1 (fun s => s.size ≤ maxLen) := Rp.string Try.underlying9 (by kernel_rfl)
theorem Rp.any {α : Type} {f : α → PV} {k : Nat} {G : α → Prop} {n : Nat} {t : TypeId} (r : Rp Try.prog n t f k G) (hl : ∀ a, (f a).cells.length = k) : Rp Try.prog n t f k (fun _ => True) := Rp.iso id (fun _ => rfl) (fun _ _ => trivial) hl r
theorem rpE : ∀ n : Nat, Rp Try.prog n 25 E.pv 4 (fun _ => True)
  | 0 => Rp.zero (by kernel_rfl) E.pv_len
  | n + 1 => by
    have rs : Rp Try.prog n 23 (fun l : List E => PV.slc (l.map E.pv)) 1 (fun _ => True) := match n with
      | 0 => Rp.zero (by kernel_rfl) (fun _ => rfl)
      | m + 1 => Rp.any (Rp.slice Try.underlying23 (by kernel_rfl) (by omega) (rpE m)) (fun _ => rfl)
    have st := Rp.struct Try.underlying25 (by kernel_rfl) (RpF.cons 1 rfl rfl (rpInt n) (RpF.cons 2 rfl rfl (rpInt n) (RpF.cons 3 rfl rfl (rpStr n) (RpF.one rfl rs))))
    exact Rp.iso (fun p : Int × (Int × (ByteArray × List E)) => E.mk p.1 p.2.1 p.2.2.1 p.2.2.2) (fun p => by obtain ⟨a, b, c, d⟩ := p; rw [E.pv_eq]; rfl) (fun _ _ => trivial) E.pv_len st
theorem rpEs (n : Nat) : Rp Try.prog n 23 (fun l : List E => PV.slc (l.map E.pv)) 1 (fun l => l.length ≤ maxLen ∧ ∀ x ∈ l, True) := Rp.down (by omega) (Rp.slice Try.underlying23 (by kernel_rfl) (by omega) (rpE n))
theorem rpInts (n : Nat) : Rp Try.prog n 31 (fun l : List Int => PV.slc (ints l)) 1 (fun l => l.length ≤ maxLen ∧ ∀ x ∈ l, (Lit.int .i64 x).wf = true) := Rp.down (by omega) (Rp.slice Try.underlying31 (by kernel_rfl) (by omega) (rpInt n))
theorem rpV (n : Nat) : Rp Try.prog n 34 V.pv 3 (fun _ => True) := by
  have st := Rp.struct Try.underlying34 (by kernel_rfl) (RpF.cons 1 rfl rfl (rpInt n) (RpF.cons 2 rfl rfl (rpInt n) (RpF.one rfl (rpStr n))))
  exact Rp.down (by omega) (Rp.iso (fun p : Int × (Int × ByteArray) => V.mk p.1 p.2.1 p.2.2) (fun _ => rfl) (fun _ _ => trivial) V.pv_len st)
theorem rpVs (n : Nat) : Rp Try.prog n 26 (fun l : List V => PV.slc (l.map V.pv)) 1 (fun l => l.length ≤ maxLen ∧ ∀ x ∈ l, True) := Rp.down (by omega) (Rp.slice Try.underlying26 (by kernel_rfl) (by omega) (rpV n))
theorem rpFn (n : Nat) : Rp Try.prog n 67 Fn.pv 7 (fun _ => True) := by
  have st := Rp.struct Try.underlying67 (by kernel_rfl) (RpF.cons 1 rfl rfl (rpStr n) (RpF.cons 2 rfl rfl (rpInts n) (RpF.cons 3 rfl rfl (rpInt n) (RpF.one rfl (rpE n)))))
  exact Rp.down (by omega) (Rp.iso (fun p : ByteArray × (List Int × (Int × E)) => Fn.mk p.1 p.2.1 p.2.2.1 p.2.2.2) (fun p => by obtain ⟨a, b, c, d⟩ := p; simp only [Fn.pv, d.pv_eq]; rfl) (fun _ _ => trivial) Fn.pv_len st)
theorem rpFns (n : Nat) : Rp Try.prog n 22 (fun l : List Fn => PV.slc (l.map Fn.pv)) 1 (fun l => l.length ≤ maxLen ∧ ∀ x ∈ l, True) := Rp.down (by omega) (Rp.slice Try.underlying22 (by kernel_rfl) (by omega) (rpFn n))
end Go.Proofs.Ytjbmdfdgeioecaa.X
