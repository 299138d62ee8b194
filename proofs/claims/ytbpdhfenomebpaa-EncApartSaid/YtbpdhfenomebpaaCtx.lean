/-
  What the functions of ctx compute: tables of contexts.
-/
import Derived.Test.YtbpdhfenomebpaaProb
namespace Go.Proofs.Ytbpdhfenomebpaa
open Go.RowKit Sp

def iniS (i cl qp : Nat) : Int := ((7 * (i : Int) + 13 * (cl : Int)) % 41 - 20) * (qp : Int) / 16 + 40 + (11 * (i : Int) + 5 * (cl : Int)) % 48
def iniC (i cl qp : Nat) : Int := min (max (iniS i cl qp) 1) 126
def ini (i cl qp : Nat) : St := if iniC i cl qp ≤ 63 then ⟨(63 - iniC i cl qp).toNat, 0⟩ else ⟨(iniC i cl qp - 64).toNat, 1⟩

theorem ini_lo {i cl qp : Nat} (h : iniC i cl qp ≤ 63) : ini i cl qp = ⟨(63 - iniC i cl qp).toNat, 0⟩ := by unfold ini; rw [if_pos h]
theorem ini_hi {i cl qp : Nat} (h : 63 < iniC i cl qp) : ini i cl qp = ⟨(iniC i cl qp - 64).toNat, 1⟩ := by unfold ini; rw [if_neg (by omega)]
theorem iniC_fits (i cl qp : Nat) : 1 ≤ iniC i cl qp ∧ iniC i cl qp ≤ 126 := by unfold iniC; omega
theorem ini_ok (i cl qp : Nat) : (ini i cl qp).ok := by
  have := iniC_fits i cl qp
  rcases Int.lt_or_le 63 (iniC i cl qp) with h | h
  · rw [ini_hi h]; unfold St.ok; simp only []; omega
  · rw [ini_lo h]; unfold St.ok; simp only []; omega

theorem prod_fits (a : Int) (qp : Nat) (h1 : -20 ≤ a) (h2 : a ≤ 20) (hq : qp ≤ 51) : -1020 ≤ a * (qp : Int) ∧ a * (qp : Int) ≤ 1020 := by
  have h3 : a * (qp : Int) ≤ 20 * (qp : Int) := Int.mul_le_mul_of_nonneg_right h2 (by omega)
  have h4 : (-20) * (qp : Int) ≤ a * (qp : Int) := Int.mul_le_mul_of_nonneg_right h1 (by omega)
  omega

/-- The value of a clamp, in the walk's own words. -/
theorem clamp_is {i cl qp : Nat} {x : Int} (h : x = iniS i cl qp) : min (max x 1) 126 = iniC i cl qp := by rw [h]; rfl

set_option maxRecDepth 100000 in
set_option maxHeartbeats 1600000 in
theorem init_any (i cl qp : Nat) (w : World) (hi : i < 286) (hc : cl ≤ 3) (hq : qp ≤ 51) :
    Calls Try.prog 42 #[.int .i64 i, .int .i64 cl, .int .i64 qp] w fun e w' => e = .returned (.tuple #[stV (ini i cl qp), .int .i64 0]) ∧ ∃ c, w' = w.alloc (.cells c 63) := by
  obtain ⟨q0, q1⟩ := prod_fits ((7 * (i : Int) + 13 * (cl : Int)) % 41 - 20) qp (by omega) (by omega) hq
  go_enter Try.func42, Try.ntmps42
  go_wp2
  all_goals
    go_returns
    refine ⟨?_, _, rfl⟩
    rcases Int.lt_or_le 63 (iniC i cl qp) with hh | hh
    · have h4 := ini_hi hh
      unfold iniC iniS at hh h4
      first
        | (exfalso; omega)
        | (rw [h4]; exact st_pair (by simp only []; omega) rfl)
    · have h4 := ini_lo hh
      unfold iniC iniS at hh h4
      first
        | (exfalso; omega)
        | (rw [h4]; exact st_pair (by simp only []; omega) rfl)

set_option maxRecDepth 100000 in
set_option maxHeartbeats 1600000 in
theorem rinit_any (i cl qp : Nat) (w : World) (hi : i < 286) (hc : cl ≤ 3) (hq : qp ≤ 51) :
    Calls Try.prog 93 #[.int .i64 i, .int .i64 cl, .int .i64 qp] w fun e w' => e = .returned (.tuple #[stV (ini i cl qp), .int .i64 0]) ∧ ∃ c, w' = w.alloc (.cells c 63) := by
  obtain ⟨q0, q1⟩ := prod_fits ((7 * (i : Int) + 13 * (cl : Int)) % 41 - 20) qp (by omega) (by omega) hq
  go_enter Try.func93, Try.ntmps93
  go_wp2
  go_loop [10] (fun s => ∃ k : Int, s = .int .i64 k ∧ -64 ≤ k ∧ 16 * k ≤ ((7 * (i : Int) + 13 * (cl : Int)) % 41 - 20) * (qp : Int)) (fun s => (1000 - intOf s).toNat)
  case atStart => exact ⟨_, rfl, by omega, by omega⟩
  case round =>
    obtain ⟨k, rfl, hk1, hk2⟩ := hrel
    go_wp2
    · go_round
      case rel => exact ⟨k + 1, by go_num, by omega, by omega⟩
      case measure => simp [intOf]; omega
    all_goals
      go_returns
      refine ⟨?_, _, rfl⟩
      rcases Int.lt_or_le 63 (iniC i cl qp) with hh | hh
      · have h4 := ini_hi hh
        unfold iniC iniS at hh h4
        first
          | (exfalso; omega)
          | (rw [h4]; exact st_pair (by simp only []; omega) rfl)
      · have h4 := ini_lo hh
        unfold iniC iniS at hh h4
        first
          | (exfalso; omega)
          | (rw [h4]; exact st_pair (by simp only []; omega) rfl)

end Go.Proofs.Ytbpdhfenomebpaa
