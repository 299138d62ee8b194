/-
  What the functions of prob and of the reference 23 compute: the share of a state, the state after a bit.
-/
import Derived.Test.YtbpdhfenomebpaaProg
import Derived.Test.YtbpdhfenomebpaaWorld
import Derived.Test.YtbpdhfenomebpaaInt
namespace Go.Proofs.Ytbpdhfenomebpaa
open Go.RowKit Sp

theorem num_succ (p : Nat) : ((num (p + 1) : Nat) : Int) = (num p : Int) * 31091 / 32768 := by
  rw [num]; omega

set_option maxHeartbeats 400000 in
theorem number_any (p : Nat) (w : World) (hp : p ≤ 62) :
    Calls Try.prog 97 #[.int .u8 p] w fun e w' => e = .returned (.int .i64 (num p)) ∧ w = w' := by
  go_enter Try.func97, Try.ntmps97
  go_wp2
  go_loop [3, 5] (fun c i => ∃ k : Nat, k ≤ p ∧ i = .int .u8 k ∧ c = .int .i64 (num k)) (fun _ i => p - (intOf i).toNat)
  case atStart => exact ⟨0, Nat.zero_le _, rfl, rfl⟩
  case round =>
    obtain ⟨k, hk, rfl, rfl⟩ := hrel
    have hl := num_le k
    go_wp2
    · go_round
      case rel => exact ⟨k + 1, by omega, by go_num, by rw [num_succ]⟩
      case measure => simp [intOf]; omega
    · have : k = p := by omega
      subst this
      go_ret
      exact ⟨rfl, rfl⟩

set_option maxHeartbeats 400000 in
theorem c_any (p : Nat) (w : World) (hp : p ≤ 62) :
    Calls Try.prog 136 #[.int .i64 p] w fun e w' => e = .returned (.int .i64 (num p)) ∧ w = w' := by
  go_enter Try.func136, Try.ntmps136
  go_wp2
  go_loop [3, 4] (fun c i => ∃ k : Nat, k ≤ p ∧ i = .int .i64 k ∧ c = .int .i64 (num k)) (fun _ i => p - (intOf i).toNat)
  case atStart => exact ⟨0, Nat.zero_le _, rfl, rfl⟩
  case round =>
    obtain ⟨k, hk, rfl, rfl⟩ := hrel
    have hl := num_le k
    go_wp2
    · go_round
      case rel => exact ⟨k + 1, by omega, by go_num, by rw [num_succ]⟩
      case measure => simp [intOf]; omega
    · have : k = p := by omega
      subst this
      go_ret
      exact ⟨rfl, rfl⟩

theorem share_int (p d : Nat) : ((share p d : Nat) : Int) = max 6 ((num p : Int) * (288 + 64 * (d : Int)) / 32768) := by
  unfold share
  have h : (((num p * (288 + 64 * d) : Nat)) : Int) = (num p : Int) * (288 + 64 * (d : Int)) := by rw [Int.natCast_mul, Int.natCast_add, Int.natCast_mul]; rfl
  rw [← h]
  omega

theorem num_bound (p d : Nat) (hd : d ≤ 3) : 0 ≤ (num p : Int) * (288 + 64 * (d : Int)) ∧ (num p : Int) * (288 + 64 * (d : Int)) ≤ 16384 * 480 := by
  have h : (((num p * (288 + 64 * d) : Nat)) : Int) = (num p : Int) * (288 + 64 * (d : Int)) := by rw [Int.natCast_mul, Int.natCast_add, Int.natCast_mul]; rfl
  have := Nat.mul_le_mul (num_le p) (show 288 + 64 * d ≤ 480 by omega)
  rw [← h]
  omega

theorem pair_int {a b : Int} {v : Value} (h : a = b) : Ending.returned (.tuple #[.int .i64 a, v]) = Ending.returned (.tuple #[.int .i64 b, v]) := by rw [h]

set_option maxHeartbeats 800000 in
theorem share_any (p d : Nat) (w : World) (hp : p ≤ 62) (hd : d ≤ 3) :
    Calls Try.prog 43 #[.int .u8 p, .int .i64 d] w fun e w' => e = .returned (.tuple #[.int .i64 (share p d), .int .i64 0]) ∧ w = w' := by
  have hl := num_le p
  obtain ⟨hm0, hm⟩ := num_bound p d hd
  have HS := Lib.hid (share_int p d)
  go_enter Try.func43, Try.ntmps43
  go_wp2_with (go_at_call 97; refine (number_any p _ hp).mono ?_; rintro e w' ⟨rfl, rfl⟩)
  all_goals
    go_returns
    simp only []
    refine ⟨pair_int ?_, by simp⟩
    rw [HS.out]
    omega

set_option maxHeartbeats 800000 in
theorem rshare_any (p d : Nat) (w : World) (hp : p ≤ 62) (hd : d ≤ 3) :
    Calls Try.prog 110 #[.int .u8 p, .int .i64 d] w fun e w' => e = .returned (.tuple #[.int .i64 (share p d), .int .i64 0]) ∧ w = w' := by
  have hl := num_le p
  obtain ⟨hm0, hm⟩ := num_bound p d hd
  have HS := Lib.hid (share_int p d)
  go_enter Try.func110, Try.ntmps110
  go_wp2_with (go_at_call 136; refine (c_any p _ hp).mono ?_; rintro e w' ⟨rfl, rfl⟩)
  all_goals
    go_returns
    simp only []
    refine ⟨pair_int ?_, by simp⟩
    rw [HS.out]
    omega

/-- A state as a value. -/
def stV (s : St) : Value := .agg #[.int .u8 s.p, .int .u8 s.m]

theorem check_any (p m : Nat) (w : World) (hp : p ≤ 62) (hm : m ≤ 1) :
    Calls Try.prog 98 #[.agg #[.int .u8 p, .int .u8 m]] w fun e w' => e = .returned (.int .i64 0) ∧ ∃ c, w' = w.alloc (.cells c 63) := by
  go_enter Try.func98, Try.ntmps98
  go_wp2
  go_returns
  exact ⟨by simp, _, rfl⟩

theorem rcheck_any (p m : Nat) (w : World) (hp : p ≤ 62) (hm : m ≤ 1) :
    Calls Try.prog 150 #[.agg #[.int .u8 p, .int .u8 m]] w fun e w' => e = .returned (.int .i64 0) ∧ ∃ c, w' = w.alloc (.cells c 63) := by
  go_enter Try.func150, Try.ntmps150
  go_wp2
  go_returns
  exact ⟨by simp, _, rfl⟩

theorem st_pair {a b : Int} {s : St} (h1 : a = s.p) (h2 : b = s.m) : Ending.returned (.tuple #[.agg #[.int .u8 a, .int .u8 b], .int .i64 0]) = Ending.returned (.tuple #[stV s, .int .i64 0]) := by
  rw [h1, h2]; rfl

theorem nxt_same {p m b : Nat} (h : b = m) : nxt ⟨p, m⟩ b = ⟨min (p + 1) 62, m⟩ := by unfold nxt; rw [if_pos h]
theorem nxt_zero {p m b : Nat} (h : b ≠ m) (h0 : p = 0) : nxt ⟨p, m⟩ b = ⟨0, b⟩ := by unfold nxt; rw [if_neg h, if_pos h0]
theorem nxt_else {p m b : Nat} (h : b ≠ m) (h0 : p ≠ 0) : nxt ⟨p, m⟩ b = ⟨p - 1 - p * p / 160, m⟩ := by unfold nxt; rw [if_neg h, if_neg h0]
theorem sq_fits (p : Nat) (hp : p ≤ 62) : 0 ≤ (p : Int) * p ∧ (p : Int) * p ≤ 62 * p := by
  have h : ((p * p : Nat) : Int) = (p : Int) * p := Int.natCast_mul _ _
  have := Nat.mul_le_mul_right p hp
  omega
theorem sq_cast (p : Nat) : ((p * p / 160 : Nat) : Int) = (p : Int) * p / 160 := by
  have h : ((p * p : Nat) : Int) = (p : Int) * p := Int.natCast_mul _ _
  omega

set_option maxHeartbeats 1600000 in
theorem next_any (p m b : Nat) (w : World) (hp : p ≤ 62) (hm : m ≤ 1) (hb : b ≤ 1) :
    Calls Try.prog 44 #[.agg #[.int .u8 p, .int .u8 m], .int .u8 b] w fun e w' => e = .returned (.tuple #[stV (nxt ⟨p, m⟩ b), .int .i64 0]) ∧
      ∃ c1 c2 c3, w' = ((w.alloc (.cells c1 63)).alloc (.cells c2 63)).alloc (.cells c3 63) := by
  obtain ⟨q0, q1⟩ := sq_fits p hp
  by_cases hbm : b = m
  · have H := Lib.hid (nxt_same (p := p) hbm)
    have t1 : ((b : Int) == m) = true := by simp [hbm]
    clear hbm
    go_enter Try.func44, Try.ntmps44
    go_wp2_with (go_at_call 98; refine (check_any p m _ hp hm).mono ?_; rintro e w' ⟨rfl, c, rfl⟩)
    all_goals
      go_returns
      exact ⟨by rw [H.out]; exact st_pair (by first | omega | (simp only []; omega) | rfl) rfl, _, _, _, rfl⟩
  · have t1 : ((b : Int) == m) = false := by simp; omega
    by_cases h0 : p = 0
    · have H := Lib.hid (nxt_zero hbm h0)
      have t2 : ((p : Int) == 0) = true := by simp [h0]
      have H0 := Lib.hid h0
      have H1 := Lib.hid hbm
      clear hbm h0
      go_enter Try.func44, Try.ntmps44
      go_wp2_with (go_at_call 98; refine (check_any p m _ hp hm).mono ?_; rintro e w' ⟨rfl, c, rfl⟩)
      all_goals
        go_returns
        exact ⟨by rw [H.out]; exact st_pair (by have := H0.out; first | omega | (simp only []; omega) | rfl) (by have := H1.out; first | omega | (simp only []; omega) | rfl), _, _, _, rfl⟩
    · have H := Lib.hid (nxt_else hbm h0)
      have t2 : ((p : Int) == 0) = false := by simp; omega
      have H0 := Lib.hid h0
      have HQ := Lib.hid (sq_cast p)
      clear hbm h0
      go_enter Try.func44, Try.ntmps44
      go_wp2_with (go_at_call 98; refine (check_any p m _ hp hm).mono ?_; rintro e w' ⟨rfl, c, rfl⟩)
      all_goals
        go_returns
        exact ⟨by rw [H.out]; exact st_pair (by have := HQ.out; have := H0.out; first | omega | (simp only []; omega) | rfl) rfl, _, _, _, rfl⟩

set_option maxHeartbeats 1600000 in
theorem rnext_any (p m b : Nat) (w : World) (hp : p ≤ 62) (hm : m ≤ 1) (hb : b ≤ 1) :
    Calls Try.prog 137 #[.agg #[.int .u8 p, .int .u8 m], .int .u8 b] w fun e w' => e = .returned (.tuple #[stV (nxt ⟨p, m⟩ b), .int .i64 0]) ∧
      ∃ c1 c2 c3, w' = ((w.alloc (.cells c1 63)).alloc (.cells c2 63)).alloc (.cells c3 63) := by
  obtain ⟨q0, q1⟩ := sq_fits p hp
  by_cases hbm : b = m
  · have H := Lib.hid (nxt_same (p := p) hbm)
    have t1 : ((b : Int) == m) = true := by simp [hbm]
    clear hbm
    go_enter Try.func137, Try.ntmps137
    go_wp2_with (go_at_call 150; refine (rcheck_any p m _ hp hm).mono ?_; rintro e w' ⟨rfl, c, rfl⟩)
    all_goals
      go_returns
      exact ⟨by rw [H.out]; exact st_pair (by first | omega | (simp only []; omega) | rfl) rfl, _, _, _, rfl⟩
  · have t1 : ((b : Int) == m) = false := by simp; omega
    by_cases h0 : p = 0
    · have H := Lib.hid (nxt_zero hbm h0)
      have t2 : ((p : Int) == 0) = true := by simp [h0]
      have H0 := Lib.hid h0
      have H1 := Lib.hid hbm
      clear hbm h0
      go_enter Try.func137, Try.ntmps137
      go_wp2_with (go_at_call 150; refine (rcheck_any p m _ hp hm).mono ?_; rintro e w' ⟨rfl, c, rfl⟩)
      all_goals
        go_returns
        exact ⟨by rw [H.out]; exact st_pair (by have := H0.out; first | omega | (simp only []; omega) | rfl) (by have := H1.out; first | omega | (simp only []; omega) | rfl), _, _, _, rfl⟩
    · have H := Lib.hid (nxt_else hbm h0)
      have t2 : ((p : Int) == 0) = false := by simp; omega
      have H0 := Lib.hid h0
      have HQ := Lib.hid (sq_cast p)
      clear hbm h0
      go_enter Try.func137, Try.ntmps137
      go_wp2_with (go_at_call 150; refine (rcheck_any p m _ hp hm).mono ?_; rintro e w' ⟨rfl, c, rfl⟩)
      all_goals
        go_returns
        exact ⟨by rw [H.out]; exact st_pair (by have := HQ.out; have := H0.out; first | omega | (simp only []; omega) | rfl) rfl, _, _, _, rfl⟩

end Go.Proofs.Ytbpdhfenomebpaa
