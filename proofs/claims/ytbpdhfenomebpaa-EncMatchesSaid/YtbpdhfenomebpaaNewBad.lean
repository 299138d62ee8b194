/-
  Tables of a class or a quantizer that is out of range: nil, with ErrRange, in the program and in the reference.
-/
import Derived.Test.YtbpdhfenomebpaaRStop
namespace Go.Proofs.Ytbpdhfenomebpaa
open Go.RowKit Sp

theorem bad_cases {cl qp : Int} (h : ¬ (0 ≤ cl ∧ cl ≤ 3 ∧ 0 ≤ qp ∧ qp ≤ 51)) : cl < 0 ∨ (0 ≤ cl ∧ 3 < cl) ∨ (0 ≤ cl ∧ cl ≤ 3 ∧ qp < 0) ∨ (0 ≤ cl ∧ cl ≤ 3 ∧ 0 ≤ qp ∧ 51 < qp) := by omega

theorem init_bad (cl qp : Int) (w : World) (h : ¬ (0 ≤ cl ∧ cl ≤ 3 ∧ 0 ≤ qp ∧ qp ≤ 51)) :
    Calls Try.prog 42 #[.int .i64 0, .int .i64 cl, .int .i64 qp] w fun e w' => e = .returned (.tuple #[.agg #[.int .u8 0, .int .u8 0], .int .i64 3]) ∧ Only [] w w' := by
  rcases bad_cases h with h1 | ⟨h1, h2⟩ | ⟨h1, h2, h3⟩ | ⟨h1, h2, h3, h4⟩
  all_goals
    clear h
    go_enter Try.func42, Try.ntmps42
    go_wp2_with fail
    go_returns
    exact ⟨rfl, by first | exact Only.refl _ _ | exact (Only.refl _ _).alloc _⟩

theorem rinit_bad (cl qp : Int) (w : World) (h : ¬ (0 ≤ cl ∧ cl ≤ 3 ∧ 0 ≤ qp ∧ qp ≤ 51)) :
    Calls Try.prog 93 #[.int .i64 0, .int .i64 cl, .int .i64 qp] w fun e w' => e = .returned (.tuple #[.agg #[.int .u8 0, .int .u8 0], .int .i64 3]) ∧ Only [] w w' := by
  rcases bad_cases h with h1 | ⟨h1, h2⟩ | ⟨h1, h2, h3⟩ | ⟨h1, h2, h3, h4⟩
  all_goals
    clear h
    go_enter Try.func93, Try.ntmps93
    go_wp2_with fail
    go_returns
    exact ⟨rfl, by first | exact Only.refl _ _ | exact (Only.refl _ _).alloc _⟩

set_option maxRecDepth 100000 in
theorem new_bad (cl qp : Int) (w : World) (h : ¬ (0 ≤ cl ∧ cl ≤ 3 ∧ 0 ≤ qp ∧ qp ≤ 51)) :
    Calls Try.prog 20 #[.int .i64 cl, .int .i64 qp] w fun e w' => e = .returned (.tuple #[.pointer none, .int .i64 3]) ∧ Only [] w w' := by
  have HH := Lib.hid h
  clear h
  go_enter Try.func20, Try.ntmps20
  go_wp2_with fail
  go_loopw [12] (fun i wr => i = .int .i64 0 ∧ Only [] w wr) (fun i _ => 286 - (intOf i).toNat)
  case atStart => exact ⟨rfl, (Only.refl [] w).alloc _⟩
  case round =>
    obtain ⟨rfl, ho⟩ := hrel
    have HO := Lib.hid ho
    clear ho
    go_wp2_with fail
    refine (init_bad cl qp _ HH.out).mono ?_
    rintro en w1 ⟨rfl, r1⟩
    have R1 := Lib.hid (HO.out.trans r1 (by simp))
    clear r1
    go_wp2_with fail
    go_returns
    exact ⟨rfl, R1.out.alloc _⟩

set_option maxRecDepth 100000 in
theorem rnew_bad (cl qp : Int) (w : World) (h : ¬ (0 ≤ cl ∧ cl ≤ 3 ∧ 0 ≤ qp ∧ qp ≤ 51)) :
    Calls Try.prog 29 #[.int .i64 cl, .int .i64 qp] w fun e w' => e = .returned (.tuple #[.pointer none, .int .i64 3]) ∧ Only [] w w' := by
  have HH := Lib.hid h
  clear h
  go_enter Try.func29, Try.ntmps29
  go_wp2_with fail
  go_loopw [7] (fun i wr => i = .int .i64 0 ∧ Only [] w wr) (fun i _ => 286 - (intOf i).toNat)
  case atStart => exact ⟨rfl, (Only.refl [] w).alloc _⟩
  case round =>
    obtain ⟨rfl, ho⟩ := hrel
    have HO := Lib.hid ho
    clear ho
    go_wp2_with fail
    refine (rinit_bad cl qp _ HH.out).mono ?_
    rintro en w1 ⟨rfl, r1⟩
    have R1 := Lib.hid (HO.out.trans r1 (by simp))
    clear r1
    go_wp2_with fail
    go_returns
    exact ⟨rfl, R1.out.alloc _⟩

end Go.Proofs.Ytbpdhfenomebpaa
