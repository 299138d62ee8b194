/-
  Sequences of bins: what an encoder and its table are behind them. No Go in it.
-/
import Derived.Test.YtbpdhfenomebpaaInt
namespace Sp

def updT (T : Nat → St) (i : Nat) (s : St) : Nat → St := fun j => if j = i then s else T j

/-- A bin: its context (-1: bypass) and its bit. -/
abbrev Bn := Int × Nat

def Bn.ok (x : Bn) : Prop := -1 ≤ x.1 ∧ x.1 < 286 ∧ x.2 ≤ 1
instance (x : Bn) : Decidable x.ok := by unfold Bn.ok; infer_instance

structure TE where
  T : Nat → St
  e : E

def TE.bin (s : TE) (x : Bn) : TE :=
  if x.1 < 0 then ⟨s.T, s.e.byp x.2⟩ else ⟨updT s.T x.1.toNat (nxt (s.T x.1.toNat) x.2), s.e.reg (s.T x.1.toNat) x.2⟩

def TE.bins (s : TE) (l : List Bn) : TE := l.foldl TE.bin s

structure TE.ok (s : TE) : Prop where
  e : s.e.ok
  T : ∀ i, (s.T i).ok

theorem ren_d (e : E) (h0 : 1 ≤ e.r) (hr : e.r ≤ 510) : (ren e).d ≤ e.d + 9 := by
  obtain ⟨k, hk, he, _, _⟩ := renN_spec 9 e h0 (by rw [pow9]; omega) hr
  unfold ren
  rw [he]
  simp only []
  omega

theorem reg_d {e : E} (h : e.ok) (s : St) (b : Nat) : (e.reg s b).d ≤ e.d + 9 := by
  obtain ⟨hs, hl, hh⟩ := h
  obtain ⟨g1, g2⟩ := share_fits s.p hl hh
  unfold E.reg
  split
  · exact Nat.le_trans (ren_d _ (by simp only []; omega) (by simp only []; omega)) (by simp)
  · exact Nat.le_trans (ren_d _ (by simp only []; omega) (by simp only []; omega)) (by simp)

theorem TE.bin_ok {s : TE} (h : s.ok) {x : Bn} (hx : x.ok) : (s.bin x).ok := by
  unfold TE.bin
  split
  · exact ⟨E.byp_ok h.e _, h.T⟩
  · refine ⟨E.reg_ok h.e _ _, fun j => ?_⟩
    simp only [updT]
    split
    · exact nxt_ok (h.T _) hx.2.2
    · exact h.T j

theorem TE.bin_d {s : TE} (h : s.ok) (x : Bn) : (s.bin x).e.d ≤ s.e.d + 9 := by
  unfold TE.bin
  split
  · unfold E.byp; split <;> (simp only []; omega)
  · exact reg_d h.e _ _

theorem TE.bins_ok {s : TE} (h : s.ok) {l : List Bn} (hl : ∀ x ∈ l, x.ok) : (s.bins l).ok := by
  induction l generalizing s with
  | nil => exact h
  | cons x l ih =>
    exact ih (s := s.bin x) (TE.bin_ok h (hl x (by simp))) (fun y hy => hl y (by simp [hy]))

theorem TE.bins_d {s : TE} (h : s.ok) {l : List Bn} (hl : ∀ x ∈ l, x.ok) : (s.bins l).e.d ≤ s.e.d + 9 * l.length := by
  induction l generalizing s with
  | nil => simp [TE.bins]
  | cons x l ih =>
    have h1 := ih (s := s.bin x) (TE.bin_ok h (hl x (by simp))) (fun y hy => hl y (by simp [hy]))
    have h2 := TE.bin_d h x
    show ((s.bin x).bins l).e.d ≤ _
    rw [List.length_cons]
    omega

theorem TE.bins_take {s : TE} (l : List Bn) (k : Nat) (h : k < l.length) : s.bins (l.take (k + 1)) = (s.bins (l.take k)).bin l[k] := by
  unfold TE.bins
  rw [List.take_succ_eq_append_getElem h, List.foldl_append]
  rfl

end Sp
