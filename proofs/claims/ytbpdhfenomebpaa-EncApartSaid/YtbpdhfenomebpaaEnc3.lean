/-
  The encoder: renormalize, the two sorts of bins.
-/
import Derived.Test.YtbpdhfenomebpaaEnc2
namespace Go.Proofs.Ytbpdhfenomebpaa
open Go.RowKit Sp

/-- What is known of an encoder's cells. -/
theorem Enc.cells {w : World} {b bw bt : Nat} {H : List Nat} {e : E} (h : Enc w b bw bt H e) :
    w.cell? ⟨b, 0, none⟩ = some (.pointer (some ⟨bw, 0, none⟩)) ∧ w.cell? ⟨b, 1, none⟩ = some (.pointer (some ⟨bt, 0, none⟩)) ∧
    w.cell? ⟨b, 3, none⟩ = some (.int .i64 ((e.c % 512 : Nat))) ∧ w.cell? ⟨b, 4, none⟩ = some (.int .i64 e.r) ∧ w.cell? ⟨b, 5, none⟩ = some (.bool false) ∧ (∀ i, w.frozen? ⟨b, i, none⟩ = false) := by
  obtain ⟨v, hblk, _⟩ := h.here
  exact ⟨(hblk.cell 0).trans rfl, (hblk.cell 1).trans rfl, (hblk.cell 3).trans rfl, (hblk.cell 4).trans rfl, (hblk.cell 5).trans rfl, hblk.free⟩

theorem Enc.setR {w : World} {b bw bt : Nat} {H : List Nat} {e : E} (h : Enc w b bw bt H e) (r : Nat) : Enc (w.setCell ⟨b, 4, none⟩ (.int .i64 r)) b bw bt H ⟨e.c, e.d, r⟩ := by
  obtain ⟨v, hblk, hsl, hF⟩ := h.here
  exact ⟨⟨v, hblk.set 4 _, hsl.set_other ⟨b, 4, none⟩ (fun x => hblk.ne_row hsl (by decide) b x rfl) _, hF⟩⟩

set_option maxRecDepth 100000 in
set_option maxHeartbeats 1600000 in
theorem renorm_any {w : World} {b bw bt : Nat} {H : List Nat} {e : E} (h : Enc w b bw bt H e) (hd : e.d ≤ 1000000000000) (h1 : 1 ≤ e.r) (hr : e.r ≤ 510) :
    Calls Try.prog 90 #[.pointer (some ⟨b, 0, none⟩)] w fun en w' => en = .returned (.tuple #[]) ∧
      ∃ H', Enc w' b bw bt H' (ren e) ∧ (∀ x ∈ H', x ∈ H ∨ w.heap.size ≤ x) ∧ Only (b :: H) w w' := by
  go_enter Try.func90, Try.ntmps90
  go_wp2_with fail
  go_loopg [] 9 (fun f wr => ∃ (e' : E) (H' : List Nat), Enc wr b bw bt H' e' ∧ renN f e' = ren e ∧ 256 ≤ e'.r * 2 ^ f ∧ e'.r ≤ 510 ∧ 1 ≤ e'.r ∧ e'.d + f ≤ e.d + 9 ∧ (∀ x ∈ H', x ∈ H ∨ w.heap.size ≤ x) ∧ Only (b :: H) w wr)
  case atStart => exact ⟨e, H, h, rfl, by omega, hr, h1, by omega, fun x hx => .inl hx, Only.refl _ _⟩
  case round =>
    obtain ⟨e', H', hE, hren, hf, hr', h1', hd', hH, ho⟩ := hrel
    obtain ⟨_, _, _, c4, _, hfr⟩ := hE.cells
    have f4 := hfr 4
    clear hfr
    have HE := Lib.hid hE
    have HR := Lib.hid hren
    have HF := Lib.hid hf
    have HH := Lib.hid hH
    have HO := Lib.hid ho
    clear hE hren hf hH ho h
    by_cases hlt : e'.r < 256
    · obtain ⟨f, rfl⟩ : ∃ f, gk = f + 1 := by
        cases gk with
        | zero => exfalso; have := HF.out; simp at this; omega
        | succ f => exact ⟨f, rfl⟩
      have hs := Lib.hid (HE.out.setR (2 * e'.r))
      have hcast : ((2 * e'.r : Nat) : Int) = (e'.r : Int) * 2 := by omega
      rw [hcast] at hs
      clear hcast
      go_wp2_with fail
      refine (shift_any hs.out (by simp only []; omega)).mono ?_
      rintro en w' ⟨rfl, H2, hE2, hH2, ho2⟩
      have HE2 := Lib.hid hE2
      have HH2 := Lib.hid hH2
      have HO2 := Lib.hid ho2
      clear hE2 hH2 ho2
      go_wp2_with fail
      go_roundg f
      case measure => omega
      case rel =>
        refine ⟨_, H2, HE2.out, ?_, ?_, by simp only []; omega, by simp only []; omega, by simp only []; omega, ?_, ?_⟩
        · rw [← HR.out, renN, if_pos hlt]
        · have := HF.out
          simp only [Nat.pow_succ] at this ⊢
          rw [Nat.mul_comm 2 e'.r, Nat.mul_assoc, Nat.mul_comm 2]
          exact this
        · intro x hx
          rcases HH2.out x hx with h | h
          · exact HH.out x h
          · have := HO.out.size; simp at h; omega
        · refine ((HO.out.setCell ⟨b, 4, none⟩ (by simp) _).trans HO2.out ?_)
          intro x hx
          rcases List.mem_cons.1 hx with h | h
          · exact .inl (by rw [h]; simp)
          · rcases HH.out x h with h | h
            · exact .inl (List.mem_cons_of_mem _ h)
            · exact .inr h
    · have hfin : e' = ren e := by
        rw [← HR.out]
        cases gk with
        | zero => rfl
        | succ f => rw [renN, if_neg hlt]
      have HX := Lib.hid hfin
      clear hfin
      go_wp2_with fail
      go_returns
      exact ⟨by simp, H', by rw [← HX.out]; exact HE.out, HH.out, HO.out⟩

end Go.Proofs.Ytbpdhfenomebpaa
