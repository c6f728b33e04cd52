/- The order of texts, asked the other way round. Conditions: none. -/
import Derived.Test.YtkaheioacolemaaWWords
namespace Go.Proofs.Ytkaheioacolemaa.B
open Go.RowKit Go.Proofs.YtkaheioacolemaaW.PrintWords

theorem less_flip : ∀ a b : List UInt8, Op.bytesLess b a = !(Op.bytesLess a b || a == b)
  | [], [] => rfl
  | [], _ :: _ => rfl
  | _ :: _, [] => rfl
  | x :: a, y :: b => by
    simp only [Op.bytesLess, less_flip a b]
    rcases Nat.lt_trichotomy x.toNat y.toNat with h | h | h
    · have h1 : x < y := h
      have h2 : ¬ y < x := fun h' => by have h3 : y.toNat < x.toNat := h'; omega
      have h4 : ¬ y = x := fun e => by rw [e] at h; omega
      simp [h1, h2, h4]
    · have e : x = y := UInt8.toNat_inj.1 h
      subst e
      have h2 : ¬ x < x := fun h' => by have h3 : x.toNat < x.toNat := h'; omega
      simp [h2]
    · have h1 : y < x := h
      have h2 : ¬ x < y := fun h' => by have h3 : x.toNat < y.toNat := h'; omega
      have h4 : ¬ x = y := fun e => by rw [e] at h; omega
      simp [h1, h2, h4]
theorem str_gtr (t : TypeId) (a b : ByteArray) : Go.binOp BinOp.gtr t (Value.string a) (Value.string b) = pure (Value.bool (Op.bytesLess b.toList a.toList)) := by
  rw [less_flip a.toList b.toList]
  simp [Go.binOp, Op.stringOp]
end Go.Proofs.Ytkaheioacolemaa.B
