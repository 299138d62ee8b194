/-
  EncInterval, the plain law: the digits of the interval's lower end; and of strings of bits.
-/
import Derived.Test.YtbpdhfenomebpaaMapT
namespace Sp

/-- The digits of the interval's lower end. -/
def low (e : E) : List Nat := bitsOf (9 + e.d) e.c

theorem low_len (e : E) : (low e).length = 9 + e.d := bitsOf_length _ _
theorem low_le (e : E) : ∀ x ∈ low e, x ≤ 1 := bitsOf_le _ _

theorem low_app (c d r r' : Nat) : low ⟨c, d, r⟩ ++ [0] = low ⟨2 * c, d + 1, r'⟩ := by
  show bitsOf (9 + d) c ++ [0] = bitsOf (9 + (d + 1)) (2 * c)
  rw [show 9 + (d + 1) = (9 + d) + 1 by omega]
  simp only [bitsOf]
  rw [show 2 * c / 2 = c by omega, show 2 * c % 2 = 0 by omega]

/-- There is room. -/
structure E.fits (e : E) : Prop where
  sum : e.c + e.r ≤ 510 * 2 ^ e.d
  lo : 1 ≤ e.r
  hi : e.r ≤ 510

theorem E.ok.fits {e : E} (h : e.ok) : e.fits := ⟨h.sum, by have := h.lo; omega, h.hi⟩

theorem pow_room (d : Nat) : 2 ^ (9 + d) = 512 * 2 ^ d := by rw [Nat.pow_add, pow9]

theorem low_val {c d r : Nat} (h : c < 510 * 2 ^ d) : valOf (low ⟨c, d, r⟩) = c := by
  show valOf (bitsOf (9 + d) c) = c
  rw [valOf_bitsOf]
  apply Nat.mod_eq_of_lt
  rw [pow_room]
  omega

theorem low_plus {c d r r' n : Nat} (h : c < 510 * 2 ^ d) : plusL (low ⟨c, d, r⟩) n = low ⟨c + n, d, r'⟩ := by
  unfold plusL
  rw [low_val h, low_len]
  rfl

theorem low_fit {c d r n : Nat} (h : c + n < 510 * 2 ^ d) : valOf (low ⟨c, d, r⟩) + n < 2 ^ (low ⟨c, d, r⟩).length := by
  rw [low_val (by omega), low_len, pow_room]
  simp only []
  omega

/-- The last digit a one. -/
theorem low_odd (e : E) : (low ⟨e.c + (e.r - 2), e.d, e.r⟩).set (8 + e.d) 1 = e.out := by
  show (bitsOf (9 + e.d) (e.c + (e.r - 2))).set (8 + e.d) 1 = bitsOf (9 + e.d) (odd (e.c + (e.r - 2)))
  rw [show 9 + e.d = (8 + e.d) + 1 by omega]
  simp only [bitsOf]
  rw [List.set_append_right _ _ (by simp), bitsOf_length, Nat.sub_self]
  unfold odd
  rw [show ((e.c + (e.r - 2)) / 2 * 2 + 1) / 2 = (e.c + (e.r - 2)) / 2 by omega, show ((e.c + (e.r - 2)) / 2 * 2 + 1) % 2 = 1 by omega]
  rfl

/-- The first nine bits are at most 509. -/
theorem out_first {e : E} (h : e.ok) : valOf (e.out.take 9) ≤ 509 := by
  have hs := h.sum
  have hl := h.lo
  have e1 : e.out.take 9 = bitsOf 9 (odd (e.c + (e.r - 2)) / 2 ^ e.d) := by
    unfold E.out
    rw [bitsOf_add, List.take_left' (bitsOf_length _ _)]
  rw [e1, valOf_bitsOf]
  have hp : 0 < 2 ^ e.d := Nat.pow_pos (by decide)
  have h2 : odd (e.c + (e.r - 2)) < 510 * 2 ^ e.d := by unfold odd; omega
  have h3 : odd (e.c + (e.r - 2)) / 2 ^ e.d < 510 := Nat.div_lt_of_lt_mul (by rw [Nat.mul_comm]; exact h2)
  have := Nat.mod_le (odd (e.c + (e.r - 2)) / 2 ^ e.d) (2 ^ 9)
  omega

end Sp
namespace Go.Proofs.Ytbpdhfenomebpaa
open Go.RowKit Sp

theorem txt_inj {L M : List Nat} (hL : ∀ x ∈ L, x ≤ 1) (hM : ∀ x ∈ M, x ≤ 1) (h : txt L = txt M) : L = M := by
  unfold txt strOf at h
  simp only [ByteArray.mk.injEq, List.map_map] at h
  have h2 : L.map (UInt8.ofNat ∘ fun x => 48 + x) = M.map (UInt8.ofNat ∘ fun x => 48 + x) := by
    have := congrArg Array.toList h
    simpa using this
  clear h
  induction L generalizing M with
  | nil => cases M with
    | nil => rfl
    | cons y M => simp at h2
  | cons x L ih => cases M with
    | nil => simp at h2
    | cons y M =>
      simp only [List.map_cons, List.cons.injEq, Function.comp] at h2
      have hx := hL x (by simp)
      have hy := hM y (by simp)
      have e : x = y := by
        have h3 := h2.1
        rcases (show x = 0 ∨ x = 1 by omega) with rfl | rfl <;> rcases (show y = 0 ∨ y = 1 by omega) with rfl | rfl <;> first | rfl | (exact absurd h3 (by decide))
      rw [e, ih (fun z hz => hL z (by simp [hz])) (fun z hz => hM z (by simp [hz])) h2.2]

theorem txt_take (L : List Nat) (k : Nat) : (txt L).extract 0 k = txt (L.take k) := by
  unfold txt strOf
  apply ByteArray.ext
  rw [ByteArray.data_extract]
  apply Array.ext'
  simp [List.map_take]

theorem text_low {w : World} {g cap m : Nat} {L : List Nat} (hm : m = L.length) (h : Sl w 5 1 (.slice (some ⟨g, 0, none⟩) m cap) m (L.map byteV)) (hb : ∀ x ∈ L, x ≤ 1) (hL : L.length ≤ 1000000) :
    Calls Try.prog 45 #[.slice (some ⟨g, 0, none⟩) m cap] w fun en w' => en = .returned (.string (txt L)) ∧ Only [] w w' := by
  subst hm
  exact text_any h hb hL

end Go.Proofs.Ytbpdhfenomebpaa
