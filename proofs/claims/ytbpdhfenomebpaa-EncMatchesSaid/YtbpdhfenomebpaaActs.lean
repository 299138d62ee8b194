/-
  Layer 25's law: the bins of a call of Bins.
-/
import Derived.Test.YtbpdhfenomebpaaNewBad
namespace Go.Proofs.Ytbpdhfenomebpaa
open Go.RowKit Sp

/-- The three bins of a call of Bins. -/
def three (c : Int) (bit : Nat) : List Bn := [(c, bit), (wrap64 (c + 1), 1), (-1, bit)]

set_option maxRecDepth 100000 in
theorem three_any {w : World} (what bit : Nat) (c : Int) (e : Bool) :
    Calls Try.prog 32 #[.agg #[.int .u8 what, .int .i64 c, .int .u8 bit, .bool e]] w fun en w' => ∃ g, en = .returned (.slice (some ⟨g, 0, none⟩) 3 3) ∧ w.heap.size ≤ g ∧ BinsIn w' (.slice (some ⟨g, 0, none⟩) 3 3) [g] (three c bit) ∧ Only [] w w' := by
  go_enter Try.func32, Try.ntmps32
  go_wp2_with fail
  go_returns
  refine ⟨w.heap.size + 1, rfl, by omega, ?_, ((Only.refl [] w).alloc _).alloc _⟩
  have hb := Blk.new' (w := w.alloc (.cells #[.int .u8 what, .int .i64 c, .int .u8 bit, .bool e] 55)) (n := w.heap.size + 1) (binCells (three c bit)).toArray 25 (by simp)
  exact new_bins (three c bit) hb (by simp [three])

end Go.Proofs.Ytbpdhfenomebpaa
