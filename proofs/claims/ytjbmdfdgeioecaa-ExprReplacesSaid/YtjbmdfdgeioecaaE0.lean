/- Expressions as a type of their own, and their cells. -/
import Derived.Test.YtjbmdfdgeioecaaF0
namespace Go.Proofs.Ytjbmdfdgeioecaa.X
open Go.Proofs.Ytjbmdfdgeioecaa.Am Go.Proofs.Ytjbmdfdgeioecaa.F
set_option linter.unusedVariables false
set_option linter.unusedSimpArgs false

inductive E where
  | mk (op n : Int) (s : ByteArray) (args : List E)
namespace E
def op : E → Int | mk o _ _ _ => o
def n : E → Int | mk _ n _ _ => n
def s : E → ByteArray | mk _ _ s _ => s
def args : E → List E | mk _ _ _ a => a
mutual
def pv : E → PV | mk o n s a => .agg [.int .i64 o, .int .i64 n, .str s, .slc (pvs a)]
def pvs : List E → List PV | [] => [] | e :: l => e.pv :: pvs l
end
theorem pvs_map : ∀ l : List E, pvs l = l.map pv
  | [] => rfl
  | e :: l => by simp only [pvs, List.map_cons, pvs_map l]
theorem pv_eq (e : E) : e.pv = .agg [.int .i64 e.op, .int .i64 e.n, .str e.s, .slc (e.args.map pv)] := by cases e; simp only [pv, pvs_map, op, n, s, args]
/-- The value as a temporary holds it. -/
def av (e : E) : AV := .agg [.pv (.int .i64 e.op), .pv (.int .i64 e.n), .pv (.str e.s), .pv (.slc (e.args.map pv))]
theorem pv_len (e : E) : e.pv.cells.length = 4 := by rw [pv_eq]; rfl
theorem ind {p : E → Prop} (h : ∀ e : E, (∀ a ∈ e.args, p a) → p e) : ∀ e, p e := by
  intro e
  refine E.rec (motive_1 := p) (motive_2 := fun l => ∀ a ∈ l, p a) ?_ ?_ ?_ e
  · intro o n s a ih; exact h _ ih
  · intro a ha; cases ha
  · intro a l ha hl b hb
    rcases List.mem_cons.mp hb with rfl | hb
    · exact ha
    · exact hl b hb
end E
theorem sized_E (l : List E) : sized 4 (l.map E.pv) = true := by
  simp only [sized, List.all_map, List.all_eq_true, Function.comp, beq_iff_eq]
  exact fun e _ => e.pv_len
theorem index_E {l : List E} {i : Nat} {a : E} (h : l[i]? = some a) : indexC 4 (.pv (.slc (l.map E.pv))) (i : Int) = some (.eptr [.int .i64 a.op, .int .i64 a.n, .str a.s, .slc (a.args.map E.pv)]) := by
  simp [indexC, AV.slc?, h, a.pv_len, a.pv_eq, PV.cells]
end Go.Proofs.Ytjbmdfdgeioecaa.X
