/- How an expression reads, with what is known of its numbers. -/
import Derived.Test.YtjbmdfdgeioecaaN26
import Derived.Test.YtjbmdfdgeioecaaN54
namespace Go.Proofs.Ytjbmdfdgeioecaa.X
open Go.Proofs.Ytjbmdfdgeioecaa.Am Go.Proofs.Ytjbmdfdgeioecaa.F
set_option linter.unusedVariables false
set_option linter.unusedSimpArgs false
set_option maxRecDepth 100000
theorem rpEw : ∀ n : Nat, Rp Try.prog n 25 E.pv 4 wfE
  | 0 => Rp.zero (by kernel_rfl) E.pv_len
  | n + 1 => by
    have rs : Rp Try.prog n 23 (fun l : List E => PV.slc (l.map E.pv)) 1 wfEs := match n with
      | 0 => Rp.zero (by kernel_rfl) (fun _ => rfl)
      | m + 1 => Rp.iso id (fun _ => rfl) (fun _ h => wfEs_of h.2) (fun _ => rfl) (Rp.slice Try.underlying23 (by kernel_rfl) (by omega) (rpEw m))
    have st := Rp.struct Try.underlying25 (by kernel_rfl) (RpF.cons 1 rfl rfl (rpInt n) (RpF.cons 2 rfl rfl (rpInt n) (RpF.cons 3 rfl rfl (rpStr n) (RpF.one rfl rs))))
    exact Rp.iso (fun p : Int × (Int × (ByteArray × List E)) => E.mk p.1 p.2.1 p.2.2.1 p.2.2.2) (fun p => by obtain ⟨a, b, c, d⟩ := p; rw [E.pv_eq]; rfl) (fun p hp => by obtain ⟨a, b, c, d⟩ := p; simp only [wfE]; exact ⟨⟨hp.1, hp.2.1, hp.2.2.1⟩, hp.2.2.2⟩) E.pv_len st
theorem wfC_of {e : E} (h : wfE e) : wfC e := fun _ hn => wf_reads e h hn
end Go.Proofs.Ytjbmdfdgeioecaa.X
