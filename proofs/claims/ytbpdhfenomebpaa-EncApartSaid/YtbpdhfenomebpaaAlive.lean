/-
  Layer 25's law: alive.
-/
import Derived.Test.YtbpdhfenomebpaaFit
namespace Go.Proofs.Ytbpdhfenomebpaa
open Go.RowKit Sp

theorem no_bins (w : World) : BinsIn w (.slice none 0 0) [] [] := ⟨⟨none, 0, rfl⟩, .inl rfl⟩

/-- A new block that holds these bins. -/
theorem new_bins {w : World} {b : Nat} (l : List Bn) (h : Blk w b (binCells l).toArray 25) (hl : l.length ≤ 1000000) : BinsIn w (.slice (some ⟨b, 0, none⟩) l.length l.length) [b] l := by
  refine ⟨⟨_, _, rfl⟩, .inr ⟨b, 0, _, rfl, rfl, h.lt, Nat.le_refl _, by omega, fun k hk => ?_⟩⟩
  obtain ⟨e1, e2⟩ := binCells_get l k hk
  exact ⟨by rw [Nat.zero_add, h.cell, List.getElem?_toArray, e1], by rw [Nat.zero_add, h.cell, List.getElem?_toArray, e2]⟩

theorem alive1 : txt (TE.runS 0 0 [] (start 0 0)).e.out = ⟨#[49, 49, 49, 49, 49, 49, 49, 48, 49]⟩ := by
  have : (TE.runS 0 0 [] (start 0 0)).e.out = [1, 1, 1, 1, 1, 1, 1, 0, 1] := by decide +kernel
  rw [this]; rfl

theorem alive2 : txt (TE.runS 0 0 [(24, 0)] (start 0 0)).e.out = ⟨#[49, 49, 49, 49, 49, 49, 49, 48, 49, 49]⟩ := by
  have : (TE.runS 0 0 [(24, 0)] (start 0 0)).e.out = [1, 1, 1, 1, 1, 1, 1, 0, 1, 1] := by decide +kernel
  rw [this]; rfl

set_option maxRecDepth 100000 in
set_option maxHeartbeats 1600000 in
theorem alive_any (w : World) : Calls Try.prog 28 #[] w fun en w' => en = .returned (.bool true) ∧ Only [] w w' := by
  have c1 := fun W => code_any (w := W) 0 0 0 (by decide) (by decide) (by decide) (no_bins W) (by simp) (by simp)
  have c2 := fun W b (h : Blk W b (binCells [(24, 0)]).toArray 25) => code_any (w := W) 0 0 0 (by decide) (by decide) (by decide) (new_bins [(24, 0)] h (by simp)) (by simp [Bn.ok]) (by simp)
  rw [alive1] at c1
  rw [alive2] at c2
  have C1 := Lib.hid c1
  have C2 := Lib.hid c2
  clear c1 c2
  go_enter Try.func28, Try.ntmps28
  go_wp2_with fail
  refine (C1.out w).mono ?_
  rintro en w1 ⟨bt, rfl, _, _, r1⟩
  have A1 := Lib.hid r1
  clear r1
  go_wp2_with fail
  refine (C2.out _ _ (Blk.new _ _ _)).mono ?_
  rintro en w2 ⟨bt2, rfl, _, _, r1⟩
  have A2 := Lib.hid ((A1.out.alloc _).trans r1 (by simp))
  clear r1
  go_wp2_with fail
  go_returns
  exact ⟨rfl, A2.out⟩

end Go.Proofs.Ytbpdhfenomebpaa
