/-
  EncApart, the plain law: different bins, each with a Stop behind it, have codes none of which begins the other. No Go in it.
-/
import Derived.Test.YtbpdhfenomebpaaCode
namespace Sp

/-- Bins with a Stop behind each; the last one's Stop is not in it. -/
def TE.chain : TE → List Bn → TE
  | s, [] => s
  | s, [x] => s.bin x
  | s, x :: y :: l => TE.chain ((s.bin x).stop) (y :: l)

theorem TE.stepS_one (s : TE) (i : Nat) (x : Bn) : s.stepS 1 i x = (s.bin x).stop := by
  unfold TE.stepS
  rw [if_pos ⟨by decide, Nat.mod_one i⟩]

theorem TE.chain_run (l : List Bn) (x : Bn) (s : TE) (i : Nat) : TE.chain s (l ++ [x]) = (TE.runS 1 i l s).bin x := by
  induction l generalizing s i with
  | nil => rfl
  | cons y l ih =>
    have : TE.chain s (y :: l ++ [x]) = TE.chain ((s.bin y).stop) (l ++ [x]) := by
      cases l <;> rfl
    rw [this, ih _ (i + 1)]
    show _ = (TE.runS 1 (i + 1) l (s.stepS 1 i y)).bin x
    rw [TE.stepS_one]

theorem TE.chain_take (l : List Bn) (s : TE) (n : Nat) (h : l.length = n + 1) : TE.chain s l = (TE.runS 1 0 (l.take n) s).bin (l[n]'(by omega)) := by
  have e : l = l.take n ++ [l[n]'(by omega)] := by
    rw [← List.take_succ_eq_append_getElem (by omega), List.take_of_length_le (by omega)]
  conv => lhs; rw [e]
  exact TE.chain_run _ _ _ _

section
variable {bs : List Nat} (hB : ∀ b ∈ bs, b ≤ 1)
include hB

/-- A bin's interval lies in the one before. -/
theorem In_bin {s : TE} (h : s.ok) {x : Bn} (hI : In bs (s.bin x).e) : In bs s.e := by
  unfold TE.bin at hI
  split at hI
  · exact (In_byp hB hI).1
  · exact (In_reg hB h.e hI).1

/-- One bin of a context alone has the bits in its interval. -/
theorem bin_det {s : TE} (h : s.ok) {x y : Bn} (hx : x.ok) (hy : y.ok) (hc : x.1 = y.1) (hI : In bs (s.bin x).e) (hJ : In bs (s.bin y).e) : x = y := by
  obtain ⟨c, a⟩ := x
  obtain ⟨c', b⟩ := y
  simp only [] at hc
  subst hc
  obtain ⟨_, _, x3⟩ := hx
  obtain ⟨_, _, y3⟩ := hy
  simp only [] at x3 y3
  have : a = b := by
    unfold TE.bin at hI hJ
    simp only [] at hI hJ
    by_cases q : c < 0
    · rw [if_pos q] at hI hJ
      have h1 := (In_byp hB hI).2.2
      have h2 := (In_byp hB hJ).2.2
      by_cases e : a = 1
      · have := h2.2 (h1.1 e); omega
      · have : ¬ b = 1 := fun e2 => e (h1.2 (h2.1 e2))
        omega
    · rw [if_neg q] at hI hJ
      have h1 := (In_reg hB h.e hI).2
      have h2 := (In_reg hB h.e hJ).2
      have hm := (h.T c.toNat).2
      by_cases e : a = (s.T c.toNat).m
      · have := h2.2 (h1.1 e); omega
      · have : ¬ b = (s.T c.toNat).m := fun e2 => e (h1.2 (h2.1 e2))
        omega
  rw [this]

/-- The first bin's interval, and its Stop's. -/
theorem chain_In (l : List Bn) : ∀ (x : Bn) (s : TE), s.ok → x.ok → (∀ z ∈ l, z.ok) → (TE.chain s (x :: l)).e.out <+: bs → In bs (s.bin x).e ∧ (l ≠ [] → In bs (s.bin x).stop.e) := by
  induction l with
  | nil =>
    intro x s hs hx _ hp
    exact ⟨(In_fin (TE.bin_ok hs hx).e hp).1, fun h => absurd rfl h⟩
  | cons y l ih =>
    intro x s hs hx hl hp
    have hok := TE.stop_ok (TE.bin_ok hs hx)
    obtain ⟨h1, _⟩ := ih y (s.bin x).stop hok (hl y (by simp)) (fun z hz => hl z (by simp [hz])) hp
    have h2 := In_bin hB hok h1
    exact ⟨(In_stop0 hB (TE.bin_ok hs hx).e h2).1, fun _ => h2⟩

theorem apart (x : List Bn) : ∀ (y : List Bn) (s : TE), s.ok → x ≠ [] → y ≠ [] → (∀ z ∈ x, z.ok) → (∀ z ∈ y, z.ok) → (∀ i (h : i < x.length) (h' : i < y.length), x[i].1 = y[i].1) →
    (TE.chain s x).e.out <+: bs → (TE.chain s y).e.out <+: bs → x = y := by
  induction x with
  | nil => intro y s _ h; exact absurd rfl h
  | cons a x ih =>
    intro y s hs _ hy hxo hyo hc hp hq
    cases y with
    | nil => exact absurd rfl hy
    | cons b y =>
      have hao := hxo a (by simp)
      have hbo := hyo b (by simp)
      obtain ⟨i1, i2⟩ := chain_In hB x a s hs hao (fun z hz => hxo z (by simp [hz])) hp
      obtain ⟨j1, j2⟩ := chain_In hB y b s hs hbo (fun z hz => hyo z (by simp [hz])) hq
      obtain rfl := bin_det hB hs hao hbo (hc 0 (by simp) (by simp)) i1 j1
      have hok := TE.bin_ok hs hao
      cases x with
      | nil =>
        cases y with
        | nil => rfl
        | cons c y =>
          exfalso
          have h1 := (In_fin hok.e hp).2.1
          have h2 := (In_stop0 hB hok.e (j2 (by simp))).2
          omega
      | cons d x =>
        cases y with
        | nil =>
          exfalso
          have h1 := (In_fin hok.e hq).2.1
          have h2 := (In_stop0 hB hok.e (i2 (by simp))).2
          omega
        | cons c y =>
          rw [ih (c :: y) (s.bin a).stop (TE.stop_ok hok) (by simp) (by simp) (fun z hz => hxo z (by simp [hz])) (fun z hz => hyo z (by simp [hz])) (fun i h h' => by
            have := hc (i + 1) (by simpa using h) (by simpa using h')
            simpa using this) hp hq]

end

end Sp
