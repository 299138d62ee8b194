/-
  The intervals of the arithmetic coder: which bits lie in the interval of an encoder; what a decoder makes of them. No Go in it.
-/
import Derived.Test.YtbpdhfenomebpaaModel
namespace Sp

/-- The number of the first n bits. -/
def pre (bs : List Nat) (n : Nat) : Nat := valOf (bs.take n)

theorem pre_succ (bs : List Nat) (n : Nat) (h : n < bs.length) : pre bs (n + 1) = 2 * pre bs n + bs[n] := by
  unfold pre
  rw [List.take_succ_eq_append_getElem h, valOf_snoc]

theorem pre_add (bs : List Nat) (hb : ∀ b ∈ bs, b ≤ 1) (n k : Nat) (h : n + k ≤ bs.length) : pre bs n * 2 ^ k ≤ pre bs (n + k) ∧ pre bs (n + k) < (pre bs n + 1) * 2 ^ k := by
  induction k with
  | zero => simp
  | succ k ih =>
    obtain ⟨i1, i2⟩ := ih (by omega)
    have hb1 := hb bs[n + k] (List.getElem_mem _)
    rw [← Nat.add_assoc, pre_succ bs (n + k) (by omega), Nat.pow_succ', ← Nat.mul_assoc, ← Nat.mul_assoc]
    have e1 : pre bs n * 2 * 2 ^ k = 2 * (pre bs n * 2 ^ k) := by rw [Nat.mul_comm (pre bs n), Nat.mul_assoc]
    have e2 : (pre bs n + 1) * 2 * 2 ^ k = 2 * ((pre bs n + 1) * 2 ^ k) := by rw [Nat.mul_comm (pre bs n + 1), Nat.mul_assoc]
    rw [e1, e2]
    omega

/-- The bits lie in the interval of the encoder. -/
structure In (bs : List Nat) (e : E) : Prop where
  len : 9 + e.d ≤ bs.length
  ge : e.c ≤ pre bs (9 + e.d)
  lt : pre bs (9 + e.d) < e.c + e.r

section
variable {bs : List Nat} (hb : ∀ b ∈ bs, b ≤ 1)
include hb

theorem In_scale {e : E} (k : Nat) : In bs ⟨e.c * 2 ^ k, e.d + k, e.r * 2 ^ k⟩ ↔ In bs e ∧ 9 + (e.d + k) ≤ bs.length := by
  have hp : 0 < 2 ^ k := Nat.pow_pos (by decide)
  constructor
  · rintro ⟨h1, h2, h3⟩
    simp only [← Nat.add_assoc] at h1 h2 h3
    obtain ⟨g1, g2⟩ := pre_add bs hb (9 + e.d) k (by omega)
    refine ⟨⟨by omega, ?_, ?_⟩, by omega⟩
    · have : e.c * 2 ^ k < (pre bs (9 + e.d) + 1) * 2 ^ k := Nat.lt_of_le_of_lt h2 g2
      have := Nat.lt_of_mul_lt_mul_right this
      omega
    · rw [← Nat.add_mul] at h3
      exact Nat.lt_of_mul_lt_mul_right (Nat.lt_of_le_of_lt g1 h3)
  · rintro ⟨⟨h1, h2, h3⟩, h4⟩
    obtain ⟨g1, g2⟩ := pre_add bs hb (9 + e.d) k (by omega)
    refine ⟨h4, ?_, ?_⟩
    · simp only [← Nat.add_assoc]
      exact Nat.le_trans (Nat.mul_le_mul_right _ h2) g1
    · simp only [← Nat.add_assoc]
      rw [← Nat.add_mul]
      exact Nat.lt_of_lt_of_le g2 (Nat.mul_le_mul_right _ h3)

theorem In_ren {e : E} (h0 : 1 ≤ e.r) (hr : e.r ≤ 510) (h : In bs (ren e)) : In bs e := by
  obtain ⟨k, _, he, _, _⟩ := renN_spec 9 e h0 (by rw [pow9]; omega) hr
  unfold ren at h
  rw [he] at h
  exact ((In_scale hb k).1 h).1

theorem In_reg {e : E} (he : e.ok) {s : St} {b : Nat} (h : In bs (e.reg s b)) :
    In bs e ∧ (b = s.m ↔ pre bs (9 + e.d) < e.c + (e.r - share s.p (e.r / 64 % 4))) := by
  obtain ⟨hs, hl, hh⟩ := he
  obtain ⟨g1, g2⟩ := share_fits s.p hl hh
  unfold E.reg at h
  by_cases hm : b = s.m
  · rw [if_pos hm] at h
    obtain ⟨i1, i2, i3⟩ := In_ren hb (by simp only []; omega) (by simp only []; omega) h
    simp only [] at i1 i2 i3
    exact ⟨⟨i1, i2, by omega⟩, by simp only [hm, true_iff]; exact i3⟩
  · rw [if_neg hm] at h
    obtain ⟨i1, i2, i3⟩ := In_ren hb (by simp only []; omega) (by simp only []; omega) h
    simp only [] at i1 i2 i3
    exact ⟨⟨i1, by omega, by omega⟩, by simp only [hm, false_iff]; omega⟩

theorem In_byp {e : E} {b : Nat} (h : In bs (e.byp b)) :
    In bs e ∧ 9 + e.d < bs.length ∧ (b = 1 ↔ 2 * e.c + e.r ≤ pre bs (9 + e.d + 1)) := by
  unfold E.byp at h
  by_cases hm : b = 1
  · rw [if_pos hm] at h
    obtain ⟨i1, i2, i3⟩ := h
    simp only [← Nat.add_assoc] at i1 i2 i3
    have hp := pre_succ bs (9 + e.d) (by omega)
    have hb1 := hb bs[9 + e.d] (List.getElem_mem _)
    exact ⟨⟨by omega, by omega, by omega⟩, by omega, by simp only [hm, true_iff]; exact i2⟩
  · rw [if_neg hm] at h
    obtain ⟨i1, i2, i3⟩ := h
    simp only [← Nat.add_assoc] at i1 i2 i3
    have hp := pre_succ bs (9 + e.d) (by omega)
    have hb1 := hb bs[9 + e.d] (List.getElem_mem _)
    exact ⟨⟨by omega, by omega, by omega⟩, by omega, by simp only [hm, false_iff]; omega⟩

theorem In_stop0 {e : E} (he : e.ok) (h : In bs e.stop0) : In bs e ∧ pre bs (9 + e.d) < e.c + (e.r - 2) := by
  obtain ⟨hs, hl, hh⟩ := he
  obtain ⟨i1, i2, i3⟩ := In_ren hb (by simp only []; omega) (by simp only []; omega) h
  simp only [] at i1 i2 i3
  exact ⟨⟨i1, i2, by omega⟩, i3⟩

omit hb in
theorem out_length (e : E) : e.out.length = 9 + e.d := by simp [E.out]

omit hb in
/-- What Stop(true) writes lies in the last interval. -/
theorem In_fin {e : E} (he : e.ok) (h : e.out <+: bs) :
    In bs e ∧ e.c + (e.r - 2) ≤ pre bs (9 + e.d) ∧ pre bs (9 + e.d) % 2 = 1 := by
  obtain ⟨hs, hl, hh⟩ := he
  obtain ⟨t, rfl⟩ := h
  have hlen : (e.out ++ t).take (9 + e.d) = e.out := by
    rw [← out_length e]; exact List.take_left
  have hv : pre (e.out ++ t) (9 + e.d) = odd (e.c + (e.r - 2)) := by
    unfold pre
    rw [hlen]
    unfold E.out
    rw [valOf_bitsOf]
    apply Nat.mod_eq_of_lt
    have : 2 ^ (9 + e.d) = 512 * 2 ^ e.d := by rw [Nat.pow_add, pow9]
    rw [this]
    have hp : 0 < 2 ^ e.d := Nat.pow_pos (by decide)
    unfold odd
    omega
  refine ⟨⟨by simp [out_length], ?_, ?_⟩, ?_, ?_⟩ <;> rw [hv] <;> unfold odd <;> omega

end

end Sp
