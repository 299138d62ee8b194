/-
  Layer 25's law: chain; strings.HasPrefix of strings of bits.
-/
import Derived.Test.YtbpdhfenomebpaaApart
import Derived.Test.YtbpdhfenomebpaaIval
namespace Go.Proofs.Ytbpdhfenomebpaa
open Go.RowKit Sp

set_option maxRecDepth 100000 in
set_option maxHeartbeats 20000000 in
theorem chain_any {w : World} {G : List Nat} {v : Value} {l : List Bn} (cl qp : Nat) (hc : cl ≤ 3) (hq : qp ≤ 51) (hl : BinsIn w v G l) (hv : ∀ x ∈ l, x.ok) (hlen : l.length ≤ 10000) (h0 : l ≠ []) :
    Calls Try.prog 47 #[.int .i64 cl, .int .i64 qp, v] w fun en w' => en = .returned (.tuple #[.string (txt (TE.chain (start cl qp) l).e.out), .bool true]) ∧ Only [] w w' := by
  obtain ⟨a0, cap0, rfl⟩ := hl.form
  obtain ⟨n, hn⟩ : ∃ n, l.length = n + 1 := ⟨l.length - 1, by have := List.length_pos_iff.2 h0; omega⟩
  have hch := TE.chain_take l (start cl qp) n hn
  have HL := Lib.hid hl
  have HV := Lib.hid hv
  have HC := Lib.hid hch
  clear hl hv hch h0
  go_enter Try.func47, Try.ntmps47
  go_wp2_with fail
  refine (new_any cl qp _ hc hq).mono ?_
  rintro en w1 ⟨bt, rfl, h1, h2, h3⟩
  have A1 := Lib.hid h2
  have A2 := Lib.hid h3
  have A3 := Lib.hid h1
  clear h1 h2 h3
  go_wp2_with fail
  refine (write_any _).mono ?_
  rintro en w2 ⟨bw, rfl, h1, h2, h3⟩
  have B1 := Lib.hid h2
  have B2 := Lib.hid (A2.out.trans h3 (by simp))
  have B3 := Lib.hid (A1.out.only h3 (by simp))
  have B4 := Lib.hid h1
  clear h1 h2 h3
  go_wp2_with fail
  refine (Cd.new (n := w.heap.size) B1.out rfl (by simp) B3.out (by have := A1.out.lt; have := B4.out; simp; omega) (by have := A3.out; have := B4.out; have := A2.out.size; simp; omega)).mono ?_
  rintro en w3 ⟨b, rfl, h1, h2, h3⟩
  have C1 := Lib.hid h2
  have C2 := Lib.hid (B2.out.trans h3 (by simp))
  have C3 : Hid ((start cl qp).ok) := h2.ok
  clear h1 h2 h3
  go_wp2_with fail
  go_loopw [13] (fun i wr => ∃ k : Nat, k ≤ n + 1 ∧ i = .int .i64 k ∧ Only [] w wr ∧ ((k ≤ n ∧ ∃ H, Cd w.heap.size wr b bw bt H [] [] (TE.runS 1 0 (l.take k) (start cl qp))) ∨ (k = n + 1 ∧ ∃ F, Wr wr bw F (TE.chain (start cl qp) l).e.out))) (fun i _ => n + 1 - (intOf i).toNat)
  case atStart => exact ⟨0, Nat.zero_le _, rfl, C2.out, .inl ⟨Nat.zero_le _, [], C1.out⟩⟩
  case round =>
    obtain ⟨k, hk, rfl, ho, hcase⟩ := hrel
    rcases hcase with ⟨hkn, H, hC⟩ | ⟨rfl, F, hW⟩
    · have hlt : k < l.length := by omega
      have hx := HV.out l[k] (List.getElem_mem _)
      have hL := HL.out.only ho (by simp)
      rcases hL.here with hnil | ⟨g, off, cap, hv, _, hg, hcp, hm, hcells⟩
      · exfalso; rw [hnil] at hlt; simp at hlt
      obtain ⟨rfl, rfl⟩ : a0 = some ⟨g, off, none⟩ ∧ cap0 = cap := by simpa using hv
      obtain ⟨k0, k1⟩ := hcells k hlt
      have hstep := TE.runS_take 1 l (start cl qp) k hlt
      rw [TE.stepS_one] at hstep
      have hlast : k = n → (TE.chain (start cl qp) l) = (TE.runS 1 0 (l.take k) (start cl qp)).bin l[k] := by
        intro e; subst e; exact HC.out
      have hd := TE.runS_d 1 0 (l := l.take k) (s := start cl qp) C3.out (fun x hx => HV.out x (List.mem_of_mem_take hx))
      rw [List.length_take, show (start cl qp).e.d = 0 from rfl] at hd
      obtain ⟨sk, hsk⟩ : ∃ sk, sk = TE.runS 1 0 (l.take k) (start cl qp) := ⟨_, rfl⟩
      rw [← hsk] at hC hstep hd hlast
      obtain ⟨⟨c, bit⟩, hx2⟩ : ∃ x : Bn, x = l[k] := ⟨_, rfl⟩
      rw [← hx2] at k0 k1 hstep hx hlast
      simp only [] at k0 k1
      have hd2 : sk.e.d ≤ 900000000 := by omega
      have hd3 := TE.bin_d hC.ok (c, bit)
      have D1 := Lib.hid hC
      have D2 := Lib.hid ho
      have D3 := Lib.hid hstep
      have D4 := Lib.hid hx
      have D5 := Lib.hid hlast
      clear hC ho hstep hx hL hcells hsk hx2 hv hd hlast
      go_wp2_with fail
      refine (D1.out.put (c, bit) D4.out (by omega)).mono ?_
      rintro en w4 ⟨rfl, H2, r1, r2, r3⟩
      have ho2 := D2.out.past r3 (fun x hx => D1.out.n x (by simp only [List.mem_cons, List.mem_append] at hx ⊢; rcases hx with q | q | q <;> simp [q]))
      have E1 := Lib.hid r1
      have E2 := Lib.hid ho2
      clear r1 r2 r3 ho2
      by_cases hkl : k = n
      · have t1 : ((k : Int) + 1 == (l.length : Int)) = true := by rw [beq_iff_eq]; omega
        have t2 : ((k : Int) + 1 == (n : Int) + 1) = true := by rw [beq_iff_eq]; omega
        have t3 : (k : Int) + 1 = (l.length : Int) := by omega
        go_wp2_with fail
        refine (E1.out.stop1 (by simp; omega)).mono ?_
        rintro en w5 ⟨rfl, F', r1, r2, _, _, _, r4⟩
        have ho2 := E2.out.past r4 (fun x hx => E1.out.n x (by simp only [List.mem_cons, List.mem_append] at hx ⊢; rcases hx with q | q | q | q <;> simp [q]))
        rw [List.nil_append, ← D5.out hkl] at r1
        have F1 := Lib.hid r1
        have F2 := Lib.hid ho2
        clear r1 r2 r4 ho2
        go_wp2_with fail
        go_roundw
        case rel => exact ⟨k + 1, by omega, by go_num, F2.out, .inr ⟨by omega, F', F1.out⟩⟩
        case measure => simp [intOf]; omega
      · have t1 : ((k : Int) + 1 == (l.length : Int)) = false := by simp; omega
        have t2 : ((k : Int) + 1 == (n : Int) + 1) = false := by rw [beq_eq_false_iff_ne]; omega
        have t3 : ¬ ((k : Int) + 1 = (l.length : Int)) := by omega
        go_wp2_with fail
        refine (E1.out.stop0 (by omega)).mono ?_
        rintro en w5 ⟨rfl, H3, r1, r2, r3⟩
        have ho2 := E2.out.past r3 (fun x hx => E1.out.n x (by simp only [List.mem_cons, List.mem_append] at hx ⊢; rcases hx with q | q | q <;> simp [q]))
        have F1 := Lib.hid r1
        have F2 := Lib.hid ho2
        clear r1 r2 r3 ho2
        go_wp2_with fail
        go_roundw
        case rel => exact ⟨k + 1, by omega, by go_num, F2.out, .inl ⟨by omega, H3, by rw [D3.out]; exact F1.out⟩⟩
        case measure => simp [intOf]; omega
    · have D1 := Lib.hid hW
      have D2 := Lib.hid ho
      have hfd : (TE.chain (start cl qp) l).e.out.length ≤ 1000000 := by
        rw [HC.out, out_length]
        have h1 := TE.runS_d 1 0 (l := l.take n) (s := start cl qp) C3.out (fun x hx => HV.out x (List.mem_of_mem_take hx))
        have h2 := TE.runS_ok 1 0 (l := l.take n) (s := start cl qp) C3.out (fun x hx => HV.out x (List.mem_of_mem_take hx))
        have h3 := TE.bin_d h2 (l[n]'(by omega))
        rw [List.length_take, show (start cl qp).e.d = 0 from rfl] at h1
        omega
      have HN := Lib.hid hn
      clear hW ho
      go_wp2_with fail
      refine (bits_any D1.out (by omega)).mono ?_
      rintro en w5 ⟨rfl, r1⟩
      have G1 := Lib.hid (D2.out.trans r1 (by simp))
      clear r1
      go_wp2_with fail
      go_returns
      exact ⟨rfl, G1.out⟩

theorem prefix0_no {w : World} {A B : List Nat} (hA : ∀ x ∈ A, x ≤ 1) (hB : ∀ x ∈ B, x ≤ 1) (h : ¬ B <+: A) :
    Calls Try.prog 99 #[.string (txt A), .string (txt B)] w fun en w' => en = .returned (.bool false) ∧ Only [] w w' := by
  have hsA := txt_size A
  have hsB := txt_size B
  have hne : (((txt A).extract 0 B.length).toList == (txt B).toList) = false := by
    rw [beq_eq_false_iff_ne, txt_take]
    intro e
    rw [ByteArray.toList_eq, ByteArray.toList_eq] at e
    have := txt_inj (fun x hx => hA x (List.mem_of_mem_take hx)) hB (ByteArray.ext (Array.ext' e))
    exact h (by rw [← this]; exact List.take_prefix _ _)
  obtain ⟨ta, hta⟩ : ∃ t, t = txt A := ⟨_, rfl⟩
  obtain ⟨tb, htb⟩ : ∃ t, t = txt B := ⟨_, rfl⟩
  rw [← hta] at hne hsA
  rw [← htb] at hsB hne
  rw [← hta, ← htb]
  clear hta htb
  have HNE := Lib.hid hne
  clear hne h
  go_enter Try.func99, Try.ntmps99
  by_cases hle : B.length ≤ A.length
  · have hle2 : tb.size ≤ ta.size := by omega
    go_wp2_with fail
    go_returns
    exact ⟨by rw [← HNE.out]; rfl, Only.refl _ _⟩
  · have hle2 : ¬ tb.size ≤ ta.size := by omega
    have hle3 : ta.size < tb.size := by omega
    go_wp2_with fail
    go_returns
    exact ⟨rfl, Only.refl _ _⟩

theorem prefix_no {w : World} {A B : List Nat} (hA : ∀ x ∈ A, x ≤ 1) (hB : ∀ x ∈ B, x ≤ 1) (h : ¬ B <+: A) :
    Calls Try.prog 48 #[.string (txt A), .string (txt B)] w fun en w' => en = .returned (.bool false) ∧ Only [] w w' := by
  have h0 := fun W => prefix0_no (w := W) hA hB h
  obtain ⟨ta, hta⟩ : ∃ t, t = txt A := ⟨_, rfl⟩
  obtain ⟨tb, htb⟩ : ∃ t, t = txt B := ⟨_, rfl⟩
  rw [← hta, ← htb] at h0
  rw [← hta, ← htb]
  have H0 := Lib.hid h0
  clear hta htb h0
  go_enter Try.func48, Try.ntmps48
  go_wp2_with fail
  refine (H0.out _).mono ?_
  rintro en w1 ⟨rfl, r⟩
  have R := Lib.hid r
  clear r
  go_wp2_with fail
  go_returns
  exact ⟨rfl, R.out⟩

end Go.Proofs.Ytbpdhfenomebpaa
