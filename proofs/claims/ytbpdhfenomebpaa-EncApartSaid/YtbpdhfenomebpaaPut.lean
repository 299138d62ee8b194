/-
  The encoder: bins that are refused; Put; New.
-/
import Derived.Test.YtbpdhfenomebpaaBins
namespace Go.Proofs.Ytbpdhfenomebpaa
open Go.RowKit Sp

set_option maxRecDepth 100000 in
set_option maxHeartbeats 1600000 in
theorem bins_bad_any {w : World} {b : Nat} {G : List Nat} {v : Value} {l : List Bn} (c5 : w.cell? ⟨b, 5, none⟩ = some (.bool false)) (hb : b < w.heap.size) (hl : BinsIn w v G l) (hbad : ∃ x ∈ l, ¬ x.ok) (hlen : l.length ≤ 1000000000000) :
    Calls Try.prog 24 #[.pointer (some ⟨b, 0, none⟩), v] w fun en w' => en = .returned (.int .i64 3) ∧ Only [] w w' := by
  obtain ⟨a0, cap0, rfl⟩ := hl.form
  have hbk : ∀ j, b < w.heap.size + j := fun j => by omega
  have HL := Lib.hid hl
  have HX := Lib.hid hbad
  clear hl hbad
  go_enter Try.func24, Try.ntmps24
  go_wp2_with fail
  go_loopw [18] (fun i wr => ∃ k : Nat, k ≤ l.length ∧ i = .int .i64 k ∧ Only [] w wr ∧ (∀ j (h : j < k) (h' : j < l.length), Bn.ok l[j])) (fun i _ => l.length - (intOf i).toNat)
  case atStart => exact ⟨0, Nat.zero_le _, rfl, Only.refl _ _, fun j h => absurd h (Nat.not_lt_zero _)⟩
  case round =>
    obtain ⟨k, hk, rfl, ho, hall⟩ := hrel
    have HA := Lib.hid hall
    clear hall
    by_cases hlt : k < l.length
    · have hL := HL.out.only ho (by simp)
      rcases hL.here with hnil | ⟨g, off, cap, hv, _, hg, hc, hm, hcells⟩
      · exfalso; rw [hnil] at hlt; simp at hlt
      obtain ⟨rfl, rfl⟩ : a0 = some ⟨g, off, none⟩ ∧ cap0 = cap := by simpa using hv
      obtain ⟨k0, k1⟩ := hcells k hlt
      have HO := Lib.hid ho
      obtain ⟨⟨c, bit⟩, hx⟩ : ∃ x : Bn, x = l[k] := ⟨_, rfl⟩
      rw [← hx] at k0 k1
      simp only [] at k0 k1
      have HE := Lib.hid hx
      clear ho hL hcells hv hx
      by_cases hok : -1 ≤ c ∧ c < 286 ∧ bit ≤ 1
      · obtain ⟨v1, v2, v3⟩ := hok
        go_wp2_with fail
        go_roundw
        case rel =>
          refine ⟨k + 1, by omega, by go_num, HO.out.alloc _, fun j h h' => ?_⟩
          by_cases e : j = k
          · subst e; rw [← HE.out]; exact ⟨v1, v2, v3⟩
          · exact HA.out j (by omega) h'
        case measure => simp [intOf]; omega
      · go_wp2_with fail
        all_goals first
          | (go_returns; exact ⟨rfl, HO.out.alloc _⟩)
          | (exfalso; omega)
    · exfalso
      obtain ⟨x, hx, hn⟩ := HX.out
      obtain ⟨j, hj, rfl⟩ := List.getElem_of_mem hx
      exact hn (HA.out j (by omega) hj)

theorem bins_ended_any {w : World} {b : Nat} {v : Value} (c5 : w.cell? ⟨b, 5, none⟩ = some (.bool true)) :
    Calls Try.prog 24 #[.pointer (some ⟨b, 0, none⟩), v] w fun en w' => en = .returned (.int .i64 8) ∧ Only [] w w' := by
  go_enter Try.func24, Try.ntmps24
  go_wp2_with fail
  go_returns
  exact ⟨rfl, Only.refl _ _⟩

theorem bins_nil_any {w : World} {v : Value} :
    Calls Try.prog 24 #[.pointer none, v] w fun en w' => en = .returned (.int .i64 1) ∧ Only [] w w' := by
  go_enter Try.func24, Try.ntmps24
  go_wp2_with fail
  go_returns
  exact ⟨rfl, Only.refl _ _⟩

/-- The slice that Put makes of its bin. -/
theorem one_bin (w : World) (c : Int) (bit : Nat) : BinsIn ((w.alloc (.cells #[.int .i64 c, .int .u8 bit] 25)).alloc (.cells #[.int .i64 c, .int .u8 bit] 25)) (.slice (some ⟨w.heap.size + 1, 0, none⟩) 1 1) [w.heap.size + 1] [(c, bit)] := by
  refine ⟨⟨_, _, rfl⟩, .inr ⟨w.heap.size + 1, 0, 1, rfl, rfl, by simp, Nat.le_refl _, by decide, ?_⟩⟩
  intro k hk
  obtain rfl : k = 0 := by simp at hk; omega
  have hb := Blk.new (w.alloc (.cells #[.int .i64 c, .int .u8 bit] 25)) #[.int .i64 c, .int .u8 bit] 25
  rw [World.size_alloc] at hb
  exact ⟨(hb.cell 0).trans rfl, (hb.cell 1).trans rfl⟩

theorem put_of {w : World} {p : Value} {c : Int} {bit : Nat} {r : Int} {R : World → Prop}
    (h : Calls Try.prog 24 #[p, .slice (some ⟨w.heap.size + 1, 0, none⟩) 1 1] ((w.alloc (.cells #[.int .i64 c, .int .u8 bit] 25)).alloc (.cells #[.int .i64 c, .int .u8 bit] 25)) fun en w' => en = .returned (.int .i64 r) ∧ R w') :
    Calls Try.prog 23 #[p, .agg #[.int .i64 c, .int .u8 bit]] w fun en w' => en = .returned (.int .i64 r) ∧ R w' := by
  have H := Lib.hid h
  clear h
  go_enter Try.func23, Try.ntmps23
  go_wp2_with fail
  refine H.out.mono ?_
  rintro en w' ⟨rfl, hR⟩
  have HR := Lib.hid hR
  clear hR
  go_wp2_with fail
  go_returns
  exact ⟨rfl, HR.out⟩

theorem put_ok_any {w : World} {b bw bt : Nat} {H : List Nat} {s : TE} (h : Enc w b bw bt H s.e) (hok : s.ok) (hT : Tab w bt s.T) (hbt : bt ∉ b :: H) (x : Bn) (hv : x.ok) (hd : s.e.d ≤ 900000000000) :
    Calls Try.prog 23 #[.pointer (some ⟨b, 0, none⟩), .agg #[.int .i64 x.1, .int .u8 x.2]] w fun en w' => en = .returned (.int .i64 0) ∧
      ∃ H', Enc w' b bw bt H' (s.bin x).e ∧ Tab w' bt (s.bin x).T ∧ (∀ y ∈ H', y ∈ H ∨ w.heap.size ≤ y) ∧ Only (bt :: b :: H) w w' := by
  have hA : Only [] w ((w.alloc (.cells #[.int .i64 x.1, .int .u8 x.2] 25)).alloc (.cells #[.int .i64 x.1, .int .u8 x.2] 25)) := ((Only.refl [] w).alloc _).alloc _
  have hb := h.lt
  have hfr := h.fresh
  have htl := hT.lt
  refine put_of ((bins_ok_any (h.only hA (by simp) (by simp)) hok (hT.only hA (by simp)) hbt (one_bin w x.1 x.2) ?_ ?_ ?_).mono ?_)
  · intro g hg hm
    simp only [List.mem_singleton] at hg
    rcases List.mem_cons.1 hm with e | hm
    · omega
    · rcases List.mem_cons.1 hm with e | hm
      · omega
      · have := hfr g hm; omega
  · intro y hy
    simp only [List.mem_singleton] at hy
    subst hy
    exact hv
  · simp; omega
  · rintro en w' ⟨rfl, H', r1, r2, r3, r4⟩
    refine ⟨rfl, H', r1, r2, fun y hy => ?_, (hA.mono (T := bt :: b :: H) (by simp)).trans r4 (fun y hy => .inl hy)⟩
    rcases r3 y hy with e | e
    · exact .inl e
    · right; simp at e; omega

theorem put_bad_any {w : World} {b : Nat} (c5 : w.cell? ⟨b, 5, none⟩ = some (.bool false)) (x : Bn) (hv : ¬ x.ok) :
    Calls Try.prog 23 #[.pointer (some ⟨b, 0, none⟩), .agg #[.int .i64 x.1, .int .u8 x.2]] w fun en w' => en = .returned (.int .i64 3) ∧ Only [] w w' := by
  have hb : b < w.heap.size := World.block_lt_of_cell? w _ c5
  refine put_of ((bins_bad_any (b := b) ?_ (by simp; omega) (one_bin w x.1 x.2) ⟨x, by simp, hv⟩ (by simp)).mono ?_)
  · rw [World.cell?_alloc_lt _ _ _ (by simp; omega), World.cell?_alloc_lt _ _ _ hb]
    exact c5
  · rintro en w' ⟨rfl, r⟩
    exact ⟨rfl, (((Only.refl [] w).alloc _).alloc _).trans r (by simp)⟩

theorem put_ended_any {w : World} {b : Nat} (c5 : w.cell? ⟨b, 5, none⟩ = some (.bool true)) (c : Int) (bit : Nat) :
    Calls Try.prog 23 #[.pointer (some ⟨b, 0, none⟩), .agg #[.int .i64 c, .int .u8 bit]] w fun en w' => en = .returned (.int .i64 8) ∧ Only [] w w' := by
  have hb : b < w.heap.size := World.block_lt_of_cell? w _ c5
  refine put_of ((bins_ended_any (b := b) ?_).mono ?_)
  · rw [World.cell?_alloc_lt _ _ _ (by simp; omega), World.cell?_alloc_lt _ _ _ hb]
    exact c5
  · rintro en w' ⟨rfl, r⟩
    exact ⟨rfl, (((Only.refl [] w).alloc _).alloc _).trans r (by simp)⟩

theorem put_nil_any {w : World} (c : Int) (bit : Nat) :
    Calls Try.prog 23 #[.pointer none, .agg #[.int .i64 c, .int .u8 bit]] w fun en w' => en = .returned (.int .i64 1) ∧ Only [] w w' := by
  refine put_of (bins_nil_any.mono ?_)
  rintro en w' ⟨rfl, r⟩
  exact ⟨rfl, (((Only.refl [] w).alloc _).alloc _).trans r (by simp)⟩

end Go.Proofs.Ytbpdhfenomebpaa
