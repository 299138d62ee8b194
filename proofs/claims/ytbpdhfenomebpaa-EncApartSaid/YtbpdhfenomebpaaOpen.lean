/-
  Arguments that came in: slices of bins.
-/
import Derived.Test.YtbpdhfenomebpaaFit
import Derived.ProofKit
import Derived.OpenShut
import Derived.ChangeSame
import Derived.ChangeOld
import Derived.Below
import Derived.Deep.Slices
namespace Go.Proofs.Ytbpdhfenomebpaa
open Go.RowKit Go.ChangeShapes Go.WideShapes Go.ChangeAt Go.Deep Sp

section
variable {H : Type} {enc : TypeId × Value → H} {W : World} {base : Nat} {sp : Nat → Bool}

theorem laidOut : laidOutB Try.prog = true := by kernel_rfl

theorem cellsBin : Try.prog.cellsOf 25 = 2 := by kernel_rfl
theorem cells3 : Try.prog.cellsOf 3 = 1 := by kernel_rfl
theorem cells5 : Try.prog.cellsOf 5 = 1 := by kernel_rfl

set_option maxRecDepth 100000 in
theorem open_bin {n : Nat} {cs : List Value} {x : DataW H × List MemPlace} (h : DataW.trod enc Try.prog W base sp true n 25 cs = some x) :
    ∃ b : Bn, cs = [.int .i64 b.1, .int .u8 b.2] ∧ -9223372036854775808 ≤ b.1 ∧ b.1 ≤ 9223372036854775807 ∧ b.2 < 256 := by
  obtain ⟨y0, y1, m, _, hl, h0, h1⟩ := trod_struct2 Try.underlying25 h
  rw [cellsBin] at hl
  match cs, hl with
  | [c0, c1], _ =>
    have h0' : DataW.trod enc Try.prog W base sp true m 3 [c0] = some y0 := h0
    have h1' : DataW.trod enc Try.prog W base sp true m 5 [c1] = some y1 := h1
    clear h0 h1
    obtain ⟨a, e0, _, wa⟩ := DataW.trod_int Try.underlying3 h0'
    obtain ⟨b, e1, _, wb⟩ := DataW.trod_int Try.underlying5 h1'
    have ba := bounds_i64 wa
    have bb := bounds_u8 wb
    obtain ⟨b, rfl⟩ := Int.eq_ofNat_of_zero_le bb.1
    simp only [List.cons.injEq, and_true] at e0 e1
    exact ⟨(a, b), by rw [e0, e1], ba.1, ba.2, by omega⟩

theorem open_bins {a : Option Addr} {len cap : Nat} {d : DataW H} {p : List MemPlace} (h : DataW.Trod enc Try.prog W base sp true 22 (.slice a len cap) d p) :
    ∃ (G : List Nat) (l : List Bn), l.length = len ∧ len ≤ 9223372036854775807 ∧ BinsIn W (.slice a l.length cap) G l ∧ ∀ x ∈ l, -9223372036854775808 ≤ x.1 ∧ x.1 ≤ 9223372036854775807 ∧ x.2 < 256 := by
  obtain ⟨fuel, hf⟩ := h
  rcases open_slice Try.underlying22 hf with ⟨hcs, _⟩ | ⟨x, l, c, m, n, D, Pl, hcs, _, hl, hm, hmm, _, hi⟩
  · simp [Value.cells] at hcs
    obtain ⟨rfl, rfl, rfl⟩ := hcs
    exact ⟨[], [], rfl, by omega, ⟨⟨_, _, rfl⟩, .inl rfl⟩, by simp⟩
  · simp [Value.cells] at hcs
    obtain ⟨rfl, rfl, rfl⟩ := hcs
    have hlm : len ≤ m := by rw [hmm]; split <;> omega
    unfold maxLen at hm
    rw [cellsBin] at hi
    obtain ⟨V, hV⟩ := choose_lt (α := Bn) (n := len) (p := fun i (v : Bn) => W.cell? (x.add (i * 2)) = some (.int .i64 v.1) ∧ W.cell? (x.add (i * 2 + 1)) = some (.int .u8 v.2) ∧ -9223372036854775808 ≤ v.1 ∧ v.1 ≤ 9223372036854775807 ∧ v.2 < 256) (fun i hi' => by
      obtain ⟨cs', h1, h2⟩ := hi i (by omega)
      obtain ⟨b, rfl, q1, q2, q3⟩ := open_bin h2
      obtain ⟨_, _, hat⟩ := World.cells?_some h1
      have e0 := hat 0 (by decide)
      have e1 := hat 1 (by decide)
      rw [add_add] at e0 e1
      exact ⟨b, e0, e1, q1, q2, q3⟩)
    refine ⟨[x.block], (List.range len).map V, by simp, by omega, ⟨⟨_, _, rfl⟩, ?_⟩, ?_⟩
    · by_cases h0 : len = 0
      · left; simp [h0]
      · right
        obtain ⟨b, off, spot⟩ := x
        have hspot : spot = none := by simpa [Addr.add] using World.cell?_spot (hV 0 (by omega)).1
        subst hspot
        refine ⟨b, off, cap, rfl, rfl, ?_, by simpa using hl, by omega, fun k hk => ?_⟩
        · have := (hV 0 (by omega)).1
          rw [add_plain] at this
          exact World.block_lt_of_cell? W _ this
        · have hk' : k < len := by simpa using hk
          obtain ⟨q0, q1, _⟩ := hV k hk'
          rw [add_plain] at q0 q1
          simp only [List.getElem_map, List.getElem_range]
          exact ⟨q0, by rw [Nat.add_assoc]; exact q1⟩
    · intro y hy
      obtain ⟨i, hi2, rfl⟩ := List.mem_map.1 hy
      exact (hV i (List.mem_range.1 hi2)).2.2
end

end Go.Proofs.Ytbpdhfenomebpaa
