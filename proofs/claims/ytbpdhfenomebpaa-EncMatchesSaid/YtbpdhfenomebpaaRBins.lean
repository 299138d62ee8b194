/-
  The reference's encoder: Bins, Put.
-/
import Derived.Test.YtbpdhfenomebpaaREnc2
import Derived.Test.YtbpdhfenomebpaaPut
namespace Go.Proofs.Ytbpdhfenomebpaa
open Go.RowKit Sp

/-- The reference's encoder with its table. -/
structure RCd (w : World) (b bs bt gt g : Nat) (s : TE) : Prop where
  enc : REnc w b bs bt g s.e
  tab : RTab w bt gt s.T
  ok : s.ok
  h1 : bt ≠ b
  h2 : bt ≠ g
  h3 : gt ≠ b
  h4 : gt ≠ g
  h5 : bt ≠ gt

theorem RCd.only {w w' : World} {b bs bt gt g : Nat} {S : List Nat} {s : TE} (h : RCd w b bs bt gt g s) (ho : Only S w w') (hS : ∀ x ∈ [b, bt, gt, g], x ∉ S) : RCd w' b bs bt gt g s :=
  ⟨h.enc.only ho (hS _ (by simp)) (hS _ (by simp)), h.tab.only ho (hS _ (by simp)) (hS _ (by simp)), h.ok, h.h1, h.h2, h.h3, h.h4, h.h5⟩

theorem rone_any {w : World} {b bs bt gt g : Nat} {s : TE} (h : RCd w b bs bt gt g s) (hd : s.e.d ≤ 900000000000) (x : Bn) (hx : x.ok) :
    Calls Try.prog 94 #[.pointer (some ⟨b, 0, none⟩), .agg #[.int .i64 x.1, .int .u8 x.2]] w fun en w' => en = .returned (.tuple #[]) ∧
      ∃ g', RCd w' b bs bt gt g' (s.bin x) ∧ (g' = g ∨ w.heap.size ≤ g') ∧ Only [gt, b, g] w w' := by
  obtain ⟨hE, hT, hok, h1, h2, h3, h4, h5⟩ := h
  obtain ⟨c, bit⟩ := x
  obtain ⟨x1, x2, x3⟩ := hx
  simp only [] at x1 x2 x3
  have hok2 := TE.bin_ok hok (x := (c, bit)) ⟨x1, x2, x3⟩
  have l1 := hT.lt
  by_cases hc : c < 0
  · have e1 : s.bin (c, bit) = ⟨s.T, s.e.byp bit⟩ := by unfold TE.bin; rw [if_pos hc]
    rw [e1] at hok2 ⊢
    refine (rone_byp hE hok.e hd c hc bit x3).mono ?_
    rintro en w' ⟨rfl, g', r1, r2, r3⟩
    refine ⟨rfl, g', ⟨r1, hT.only r3 (by simp; exact ⟨h1, h2⟩) (by simp; exact ⟨h3, h4⟩), hok2, h1, by omega, h3, by omega, h5⟩, r2, r3.mono (fun x hx => List.mem_cons_of_mem _ hx)⟩
  · obtain ⟨i, rfl⟩ := Int.eq_ofNat_of_zero_le (show 0 ≤ c by omega)
    have e1 : s.bin ((i : Int), bit) = ⟨updT s.T i (nxt (s.T i) bit), s.e.reg (s.T i) bit⟩ := by unfold TE.bin; rw [if_neg (by simp)]; simp
    rw [e1] at hok2 ⊢
    refine (rone_reg hE hok.e hd hT h1 h2 h3 h4 h5 i bit (by omega) x3).mono ?_
    rintro en w' ⟨rfl, g', r1, r2, r3, r4⟩
    exact ⟨rfl, g', ⟨r1, r2, hok2, h1, by omega, h3, by omega, h5⟩, r3, r4⟩

set_option maxRecDepth 100000 in
set_option maxHeartbeats 3200000 in
theorem rbins_ok {w : World} {b bs bt gt g : Nat} {G : List Nat} {s : TE} {v : Value} {l : List Bn} (h : RCd w b bs bt gt g s) (hl : BinsIn w v G l)
    (hG : ∀ x ∈ G, x ∉ [gt, b, g]) (hv : ∀ x ∈ l, x.ok) (hd : s.e.d + 9 * l.length ≤ 800000000000) :
    Calls Try.prog 33 #[.pointer (some ⟨b, 0, none⟩), v] w fun en w' => en = .returned (.int .i64 0) ∧
      ∃ g', RCd w' b bs bt gt g' (s.bins l) ∧ (g' = g ∨ w.heap.size ≤ g') ∧ Only [gt, b, g] w w' := by
  obtain ⟨a0, cap0, rfl⟩ := hl.form
  have hb := h.enc.lt
  obtain ⟨_, _, _, c5, _⟩ := h.enc.cells
  have HC := Lib.hid h
  have HL := Lib.hid hl
  have HV := Lib.hid hv
  have HG := Lib.hid hG
  clear h hl hv hG
  go_enter Try.func33, Try.ntmps33
  go_wp2_with fail
  go_loopw [5] (fun i wr => ∃ k : Nat, k ≤ l.length ∧ i = .int .i64 k ∧ wr = w) (fun i _ => l.length - (intOf i).toNat)
  case atStart => exact ⟨0, Nat.zero_le _, rfl, rfl⟩
  case round =>
    obtain ⟨k, hk, rfl, rfl⟩ := hrel
    by_cases hlt : k < l.length
    · obtain ⟨v1, v2, v3⟩ := HV.out l[k] (List.getElem_mem _)
      rcases HL.out.here with hnil | ⟨q, off, cap, hv, _, hg, hc, hm, hcells⟩
      · exfalso; rw [hnil] at hlt; simp at hlt
      obtain ⟨rfl, rfl⟩ : a0 = some ⟨q, off, none⟩ ∧ cap0 = cap := by simpa using hv
      obtain ⟨k0, k1⟩ := hcells k hlt
      clear hcells hv
      go_wp2_with fail
      go_roundw
      case rel => exact ⟨k + 1, by omega, by go_num, trivial⟩
      case measure => simp [intOf]; omega
    · obtain rfl : k = l.length := by omega
      obtain ⟨wo, rfl⟩ : ∃ wo : World, wo = wr := ⟨_, rfl⟩
      go_wp2_with fail
      go_loopw [6] (fun i wr => ∃ (k : Nat) (g' : Nat), k ≤ l.length ∧ i = .int .i64 k ∧ RCd wr b bs bt gt g' (s.bins (l.take k)) ∧ (g' = g ∨ wo.heap.size ≤ g') ∧ Only [gt, b, g] wo wr) (fun i _ => l.length - (intOf i).toNat)
      case atStart => exact ⟨0, g, Nat.zero_le _, rfl, HC.out, .inl rfl, Only.refl _ _⟩
      case round =>
        obtain ⟨k, g', hk, rfl, hC, hg', ho⟩ := hrel
        by_cases hlt : k < l.length
        · have hx := HV.out l[k] (List.getElem_mem _)
          have hL := HL.out.only ho HG.out
          rcases hL.here with hnil | ⟨q, off, cap, hv, _, hg, hc, hm, hcells⟩
          · exfalso; rw [hnil] at hlt; simp at hlt
          obtain ⟨rfl, rfl⟩ : a0 = some ⟨q, off, none⟩ ∧ cap0 = cap := by simpa using hv
          obtain ⟨k0, k1⟩ := hcells k hlt
          have hstep := TE.bins_take (s := s) l k hlt
          have hdk := TE.bins_d HC.out.ok (l := l.take k) (fun x hx => HV.out x (List.mem_of_mem_take hx))
          rw [List.length_take] at hdk
          obtain ⟨sk, hsk⟩ : ∃ sk, sk = s.bins (l.take k) := ⟨_, rfl⟩
          rw [← hsk] at hC hstep hdk
          obtain ⟨⟨c, bit⟩, hx2⟩ : ∃ x : Bn, x = l[k] := ⟨_, rfl⟩
          rw [← hx2] at k0 k1 hx hstep
          simp only [] at k0 k1
          have P1 := Lib.hid hC
          have P2 := Lib.hid hg'
          have P3 := Lib.hid ho
          have P4 := Lib.hid hstep
          have P5 := Lib.hid hx
          clear hC hg' ho hstep hL hcells hx hsk hv hx2
          go_wp2_with fail
          refine (rone_any P1.out (by omega) (c, bit) P5.out).mono ?_
          rintro en w3 ⟨rfl, g2, r1, r2, r3⟩
          rw [← P4.out] at r1
          have hs := P3.out.size
          have R1 := Lib.hid r1
          have R2 : Hid (g2 = g ∨ wo.heap.size ≤ g2) := by
            rcases r2 with q | q
            · rcases P2.out with p | p
              · exact .inl (by omega)
              · exact .inr (by omega)
            · exact .inr (by omega)
          have R3 := Lib.hid (P3.out.trans r3 (fun x hx => by
            simp only [List.mem_cons, List.not_mem_nil, or_false] at hx ⊢
            rcases hx with q | q | q
            · exact .inl (.inl q)
            · exact .inl (.inr (.inl q))
            · rcases P2.out with p | p
              · exact .inl (.inr (.inr (by omega)))
              · exact .inr (by omega)))
          clear r1 r2 r3
          go_wp2_with fail
          go_roundw
          case rel => exact ⟨k + 1, g2, by omega, by go_num, R1.out, R2.out, R3.out⟩
          case measure => simp [intOf]; omega
        · obtain rfl : k = l.length := by omega
          rw [List.take_length] at hC
          have A := Lib.hid hC
          have B := Lib.hid hg'
          have C := Lib.hid ho
          clear hC hg' ho
          go_wp2_with fail
          go_returns
          exact ⟨rfl, g', A.out, B.out, C.out⟩


set_option maxRecDepth 100000 in
set_option maxHeartbeats 1600000 in
theorem rbins_bad {w : World} {b : Nat} {G : List Nat} {v : Value} {l : List Bn} (c5 : w.cell? ⟨b, 4, none⟩ = some (.bool false)) (hl : BinsIn w v G l) (hbad : ∃ x ∈ l, ¬ x.ok) (hlen : l.length ≤ 1000000000000) :
    Calls Try.prog 33 #[.pointer (some ⟨b, 0, none⟩), v] w fun en w' => en = .returned (.int .i64 3) ∧ Only [] w w' := by
  obtain ⟨a0, cap0, rfl⟩ := hl.form
  have HL := Lib.hid hl
  have HX := Lib.hid hbad
  clear hl hbad
  go_enter Try.func33, Try.ntmps33
  go_wp2_with fail
  go_loopw [5] (fun i wr => ∃ k : Nat, k ≤ l.length ∧ i = .int .i64 k ∧ Only [] w wr ∧ (∀ j (h : j < k) (h' : j < l.length), Bn.ok l[j])) (fun i _ => l.length - (intOf i).toNat)
  case atStart => exact ⟨0, Nat.zero_le _, rfl, Only.refl _ _, fun j h => absurd h (Nat.not_lt_zero _)⟩
  case round =>
    obtain ⟨k, hk, rfl, ho, hall⟩ := hrel
    have HA := Lib.hid hall
    clear hall
    by_cases hlt : k < l.length
    · have hL := HL.out.only ho (by simp)
      rcases hL.here with hnil | ⟨g, off, cap, hv, _, hg, hc, hm, hcells⟩
      · exfalso; rw [hnil] at hlt; simp at hlt
      obtain ⟨rfl, rfl⟩ : a0 = some ⟨g, off, none⟩ ∧ cap0 = cap := by simpa using hv
      obtain ⟨k0, k1⟩ := hcells k hlt
      have HO := Lib.hid ho
      obtain ⟨⟨c, bit⟩, hx⟩ : ∃ x : Bn, x = l[k] := ⟨_, rfl⟩
      rw [← hx] at k0 k1
      simp only [] at k0 k1
      have HE := Lib.hid hx
      clear ho hL hcells hv hx
      by_cases hok : -1 ≤ c ∧ c < 286 ∧ bit ≤ 1
      · obtain ⟨v1, v2, v3⟩ := hok
        go_wp2_with fail
        go_roundw
        case rel =>
          refine ⟨k + 1, by omega, by go_num, HO.out, fun j h h' => ?_⟩
          by_cases e : j = k
          · subst e
            rw [← HE.out]
            exact ⟨v1, v2, v3⟩
          · exact HA.out j (by omega) h'
        case measure => simp [intOf]; omega
      · by_cases q1 : c < -1
        · go_wp2_with fail
          go_returns
          exact ⟨rfl, HO.out⟩
        · by_cases q2 : 286 ≤ c
          · go_wp2_with fail
            go_returns
            exact ⟨rfl, HO.out⟩
          · have q3 : ¬ bit ≤ 1 := fun h => hok ⟨by omega, by omega, h⟩
            clear hok
            go_wp2_with fail
            go_returns
            exact ⟨rfl, HO.out⟩
    · exfalso
      obtain ⟨x, hx, hn⟩ := HX.out
      obtain ⟨j, hj, rfl⟩ := List.getElem_of_mem hx
      exact hn (HA.out j (by omega) hj)

theorem rbins_ended {w : World} {b : Nat} {v : Value} (c5 : w.cell? ⟨b, 4, none⟩ = some (.bool true)) :
    Calls Try.prog 33 #[.pointer (some ⟨b, 0, none⟩), v] w fun en w' => en = .returned (.int .i64 8) ∧ Only [] w w' := by
  go_enter Try.func33, Try.ntmps33
  go_wp2_with fail
  go_returns
  exact ⟨rfl, Only.refl _ _⟩

theorem rbins_nil {w : World} {v : Value} :
    Calls Try.prog 33 #[.pointer none, v] w fun en w' => en = .returned (.int .i64 1) ∧ Only [] w w' := by
  go_enter Try.func33, Try.ntmps33
  go_wp2_with fail
  go_returns
  exact ⟨rfl, Only.refl _ _⟩

end Go.Proofs.Ytbpdhfenomebpaa
