/-
  The plain model of the arithmetic coder: states of contexts, the encoder as a number c with d doublings and a range r, the bits of a number. No Go in it.
-/
namespace Sp

structure St where
  p : Nat
  m : Nat
deriving DecidableEq

def St.ok (s : St) : Prop := s.p ≤ 62 ∧ s.m ≤ 1

def num : Nat → Nat
  | 0 => 16384
  | p + 1 => num p * 31091 / 32768

def share (p w : Nat) : Nat := max 6 (num p * (288 + 64 * w) / 32768)

def nxt (s : St) (b : Nat) : St :=
  if b = s.m then ⟨min (s.p + 1) 62, s.m⟩ else if s.p = 0 then ⟨0, b⟩ else ⟨s.p - 1 - s.p * s.p / 160, s.m⟩

theorem num_le (p : Nat) : num p ≤ 16384 := by
  induction p with
  | zero => exact Nat.le_refl _
  | succ p ih => unfold num; omega

theorem share_ge (p w : Nat) : 6 ≤ share p w := by unfold share; omega

theorem share_le (p w : Nat) (hw : w ≤ 3) : share p w ≤ 144 + 32 * w := by
  have h := num_le p
  unfold share
  have h2 : num p * (288 + 64 * w) ≤ 16384 * (288 + 64 * w) := Nat.mul_le_mul_right _ h
  omega

theorem nxt_ok {s : St} {b : Nat} (h : s.ok) (hb : b ≤ 1) : (nxt s b).ok := by
  unfold nxt St.ok at *
  split
  · exact ⟨by simp; omega, h.2⟩
  · split
    · exact ⟨by simp, hb⟩
    · refine ⟨?_, h.2⟩
      simp only []
      omega

/-- The bits of a number, the highest one first. -/
def bitsOf : Nat → Nat → List Nat
  | 0, _ => []
  | n + 1, v => bitsOf n (v / 2) ++ [v % 2]

@[simp] theorem bitsOf_length (n v : Nat) : (bitsOf n v).length = n := by
  induction n generalizing v with
  | zero => rfl
  | succ n ih => simp [bitsOf, ih]

theorem bitsOf_le (n v : Nat) : ∀ b ∈ bitsOf n v, b ≤ 1 := by
  induction n generalizing v with
  | zero => intro b hb; simp [bitsOf] at hb
  | succ n ih =>
    intro b hb
    simp only [bitsOf, List.mem_append, List.mem_singleton] at hb
    rcases hb with hb | rfl
    · exact ih _ _ hb
    · omega

/-- Bits of the higher and the lower part. -/
theorem bitsOf_add (n k v : Nat) : bitsOf (n + k) v = bitsOf n (v / 2 ^ k) ++ bitsOf k v := by
  induction k generalizing v with
  | zero => simp [bitsOf]
  | succ k ih =>
    rw [← Nat.add_assoc]
    simp only [bitsOf]
    rw [ih, Nat.div_div_eq_div_mul, ← Nat.pow_succ', List.append_assoc]

theorem bitsOf_mod (n k v : Nat) (h : n ≤ k) : bitsOf n (v % 2 ^ k) = bitsOf n v := by
  induction n generalizing v k with
  | zero => rfl
  | succ n ih =>
    obtain ⟨k, rfl⟩ : ∃ j, k = j + 1 := ⟨k - 1, by omega⟩
    simp only [bitsOf]
    have h1 : v % 2 ^ (k + 1) / 2 = v / 2 % 2 ^ k := by
      rw [Nat.pow_succ', Nat.mod_mul_right_div_self]
    have h2 : v % 2 ^ (k + 1) % 2 = v % 2 := by
      rw [Nat.pow_succ', Nat.mod_mul_right_mod]
    rw [h1, h2, ih _ _ (by omega)]

/-- The number that bits say. -/
def valOf (l : List Nat) : Nat := l.foldl (fun v b => 2 * v + b) 0

theorem foldl_val (l : List Nat) (a : Nat) : l.foldl (fun v b => 2 * v + b) a = a * 2 ^ l.length + valOf l := by
  induction l generalizing a with
  | nil => simp [valOf]
  | cons b l ih =>
    simp only [List.foldl_cons, List.length_cons, valOf]
    rw [ih, ih (2 * 0 + b), Nat.pow_succ']
    simp only [Nat.mul_zero, Nat.zero_add, Nat.add_mul]
    rw [Nat.mul_assoc, Nat.mul_left_comm, Nat.add_assoc, ← Nat.mul_assoc a 2, Nat.mul_comm a 2, Nat.mul_assoc]

theorem valOf_append (l k : List Nat) : valOf (l ++ k) = valOf l * 2 ^ k.length + valOf k := by
  unfold valOf
  rw [List.foldl_append, foldl_val]
  rfl

theorem valOf_snoc (l : List Nat) (b : Nat) : valOf (l ++ [b]) = 2 * valOf l + b := by
  simp [valOf]

theorem valOf_bitsOf (n v : Nat) : valOf (bitsOf n v) = v % 2 ^ n := by
  induction n generalizing v with
  | zero => simp [bitsOf, valOf, Nat.mod_one]
  | succ n ih =>
    simp only [bitsOf]
    rw [valOf_snoc, ih, Nat.pow_succ']
    have h1 : v / 2 % 2 ^ n = v % (2 * 2 ^ n) / 2 := by rw [Nat.mod_mul_right_div_self]
    have h2 : v % 2 = v % (2 * 2 ^ n) % 2 := by rw [Nat.mod_mul_right_mod]
    rw [h1, h2]
    omega

theorem bitsOf_valOf (l : List Nat) (h : ∀ b ∈ l, b ≤ 1) : bitsOf l.length (valOf l) = l := by
  generalize hn : l.length = n
  induction n generalizing l with
  | zero =>
    obtain rfl := List.eq_nil_of_length_eq_zero hn
    rfl
  | succ n ih =>
    rcases List.eq_nil_or_concat l with rfl | ⟨l', b, rfl⟩
    · simp at hn
    · simp only [List.concat_eq_append] at hn h ⊢
      have hb := h b (by simp)
      rw [valOf_snoc]
      simp only [bitsOf]
      have e1 : (2 * valOf l' + b) / 2 = valOf l' := by omega
      have e2 : (2 * valOf l' + b) % 2 = b := by omega
      rw [e1, e2, ih l' (fun c hc => h c (by simp [hc])) (by simpa using hn)]

/-- The encoder: the code, the doublings, the range. -/
structure E where
  c : Nat
  d : Nat
  r : Nat
deriving DecidableEq

def renN : Nat → E → E
  | 0, e => e
  | f + 1, e => if e.r < 256 then renN f ⟨2 * e.c, e.d + 1, 2 * e.r⟩ else e

def ren (e : E) : E := renN 9 e

def E.reg (e : E) (s : St) (b : Nat) : E :=
  ren (if b = s.m then ⟨e.c, e.d, e.r - share s.p (e.r / 64 % 4)⟩
    else ⟨e.c + (e.r - share s.p (e.r / 64 % 4)), e.d, share s.p (e.r / 64 % 4)⟩)

def E.byp (e : E) (b : Nat) : E := if b = 1 then ⟨2 * e.c + e.r, e.d + 1, e.r⟩ else ⟨2 * e.c, e.d + 1, e.r⟩

def E.stop0 (e : E) : E := ren ⟨e.c, e.d, e.r - 2⟩

/-- The code with its lowest bit 1. -/
def odd (c : Nat) : Nat := c / 2 * 2 + 1

def E.out (e : E) : List Nat := bitsOf (9 + e.d) (odd (e.c + (e.r - 2)))

def E.ini : E := ⟨0, 0, 510⟩

/-- What holds between two calls. -/
structure E.ok (e : E) : Prop where
  sum : e.c + e.r ≤ 510 * 2 ^ e.d
  lo : 256 ≤ e.r
  hi : e.r ≤ 510

theorem E.ini_ok : E.ini.ok := ⟨by decide, by decide, by decide⟩

/-- What renormalizing gives: k doublings. -/
theorem renN_spec (f : Nat) (e : E) (h0 : 1 ≤ e.r) (hf : 256 ≤ e.r * 2 ^ f) (hr : e.r ≤ 510) :
    ∃ k, k ≤ f ∧ renN f e = ⟨e.c * 2 ^ k, e.d + k, e.r * 2 ^ k⟩ ∧ 256 ≤ e.r * 2 ^ k ∧ e.r * 2 ^ k ≤ 510 := by
  induction f generalizing e with
  | zero => exact ⟨0, Nat.le_refl _, by simp [renN], by simpa using hf, by simpa using hr⟩
  | succ f ih =>
    unfold renN
    by_cases h : e.r < 256
    · rw [if_pos h]
      obtain ⟨k, hk, he, hl, hh⟩ := ih ⟨2 * e.c, e.d + 1, 2 * e.r⟩ (by simp; omega) (by simp only [Nat.pow_succ] at hf ⊢; rw [Nat.mul_comm 2, Nat.mul_assoc, Nat.mul_comm 2]; exact hf) (by simp only []; omega)
      have e1 : ∀ x : Nat, x * 2 ^ (k + 1) = 2 * x * 2 ^ k := fun x => by rw [Nat.pow_succ', ← Nat.mul_assoc, Nat.mul_comm x 2]
      refine ⟨k + 1, by omega, ?_, ?_, ?_⟩
      · rw [he, e1, e1]; simp only [E.mk.injEq, true_and, and_true]; omega
      · rw [e1]; exact hl
      · rw [e1]; exact hh
    · rw [if_neg h]
      exact ⟨0, Nat.zero_le _, by simp, by simp; omega, by simpa using hr⟩

theorem pow9 : (2 : Nat) ^ 9 = 512 := by decide

theorem ren_ok {e : E} (h0 : 1 ≤ e.r) (hr : e.r ≤ 510) (hs : e.c + e.r ≤ 510 * 2 ^ e.d) : (ren e).ok := by
  obtain ⟨k, _, he, hl, hh⟩ := renN_spec 9 e h0 (by rw [pow9]; omega) hr
  unfold ren
  rw [he]
  refine ⟨?_, hl, hh⟩
  simp only []
  rw [← Nat.add_mul, Nat.pow_add, ← Nat.mul_assoc]
  exact Nat.mul_le_mul_right _ hs

/-- The share and what is left of it. -/
theorem share_fits {r : Nat} (p : Nat) (lo : 256 ≤ r) (hi : r ≤ 510) : 6 ≤ share p (r / 64 % 4) ∧ share p (r / 64 % 4) + 112 ≤ r := by
  refine ⟨share_ge _ _, ?_⟩
  have := share_le p (r / 64 % 4) (by omega)
  omega

theorem E.reg_ok {e : E} (h : e.ok) (s : St) (b : Nat) : (e.reg s b).ok := by
  obtain ⟨hs, hl, hh⟩ := h
  obtain ⟨g1, g2⟩ := share_fits s.p hl hh
  unfold E.reg
  split
  · exact ren_ok (by simp only []; omega) (by simp only []; omega) (by simp only []; omega)
  · exact ren_ok (by simp only []; omega) (by simp only []; omega) (by simp only []; omega)

theorem E.byp_ok {e : E} (h : e.ok) (b : Nat) : (e.byp b).ok := by
  obtain ⟨hs, hl, hh⟩ := h
  unfold E.byp
  split
  · exact ⟨by simp only [Nat.pow_succ']; omega, hl, hh⟩
  · exact ⟨by simp only [Nat.pow_succ']; omega, hl, hh⟩

theorem E.stop0_ok {e : E} (h : e.ok) : e.stop0.ok := by
  obtain ⟨hs, hl, hh⟩ := h
  exact ren_ok (by simp only []; omega) (by simp only []; omega) (by simp only []; omega)

end Sp
