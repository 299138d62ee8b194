/-
  EncNames: the examples, nil encoders, and writers in the middle of a byte. No condition.
-/
import Derived.Test.YtbpdhfenomebpaaAlive
namespace Go.Proofs.Ytbpdhfenomebpaa
open Go.RowKit Sp

theorem code_txt {W : World} {v : Value} {G : List Nat} (l : List Bn) (B : List Nat) (S : ByteArray) (hB : (TE.runS 0 0 l (start 0 0)).e.out = B) (hS : txt B = S) (hl : BinsIn W v G l) (hv : ∀ x ∈ l, x.ok) (hlen : l.length ≤ 1000000) :
    Calls Try.prog 19 #[.int .i64 0, .int .i64 0, .int .i64 0, v] W fun en w' => ∃ bt, en = .returned (.tuple #[.string S, .pointer (some ⟨bt, 0, none⟩), .bool true]) ∧ Only [] W w' := by
  refine (code_any (w := W) 0 0 0 (by decide) (by decide) (by decide) hl hv hlen).mono ?_
  rintro en w' ⟨bt, rfl, _, _, h⟩
  exact ⟨bt, by rw [hB, hS], h⟩

set_option maxRecDepth 100000 in
set_option maxHeartbeats 3200000 in
theorem names_any (w : World) : Calls Try.prog 3 #[] w fun en w' => en = .returned (.bool true) ∧ Only [] w w' := by
  have c0 := fun (W : World) => code_txt [] [1, 1, 1, 1, 1, 1, 1, 0, 1] ⟨#[49, 49, 49, 49, 49, 49, 49, 48, 49]⟩ (by decide +kernel) rfl (no_bins W) (by simp) (by simp)
  have c1 := fun (W : World) b (h : Blk W b (binCells [(-1, 0)]).toArray 25) => code_txt [(-1, 0)] [0, 1, 1, 1, 1, 1, 1, 1, 0, 1] ⟨#[48, 49, 49, 49, 49, 49, 49, 49, 48, 49]⟩ (by decide +kernel) rfl (new_bins [(-1, 0)] h (by simp)) (by simp [Bn.ok]) (by simp)
  have c2 := fun (W : World) b (h : Blk W b (binCells [(-1, 1)]).toArray 25) => code_txt [(-1, 1)] [1, 1, 1, 1, 1, 1, 1, 0, 1, 1] ⟨#[49, 49, 49, 49, 49, 49, 49, 48, 49, 49]⟩ (by decide +kernel) rfl (new_bins [(-1, 1)] h (by simp)) (by simp [Bn.ok]) (by simp)
  have c3 := fun (W : World) b (h : Blk W b (binCells [(24, 1)]).toArray 25) => code_txt [(24, 1)] [1, 0, 0, 0, 0, 1, 1, 0, 1] ⟨#[49, 48, 48, 48, 48, 49, 49, 48, 49]⟩ (by decide +kernel) rfl (new_bins [(24, 1)] h (by simp)) (by simp [Bn.ok]) (by simp)
  have c4 := fun (W : World) b (h : Blk W b (binCells [(24, 0)]).toArray 25) => code_txt [(24, 0)] [1, 1, 1, 1, 1, 1, 1, 0, 1, 1] ⟨#[49, 49, 49, 49, 49, 49, 49, 48, 49, 49]⟩ (by decide +kernel) rfl (new_bins [(24, 0)] h (by simp)) (by simp [Bn.ok]) (by simp)
  have C0 := Lib.hid c0
  have C1 := Lib.hid c1
  have C2 := Lib.hid c2
  have C3 := Lib.hid c3
  have C4 := Lib.hid c4
  clear c0 c1 c2 c3 c4
  go_enter Try.func3, Try.ntmps3
  go_wp2_with fail
  go_loopw [30] (fun i wr => ∃ k : Nat, k ≤ 5 ∧ i = .int .i64 k ∧ Only [] w wr ∧ Blk wr w.heap.size (binCells [(-1, 0)]).toArray 25 ∧ Blk wr (w.heap.size + 1) (binCells [(-1, 1)]).toArray 25 ∧ Blk wr (w.heap.size + 2) (binCells [(24, 1)]).toArray 25 ∧ Blk wr (w.heap.size + 3) (binCells [(24, 0)]).toArray 25 ∧
    Blk wr (w.heap.size + 4) #[.int .i64 0, .slice none 0 0, .string ⟨#[49, 49, 49, 49, 49, 49, 49, 48, 49]⟩, .int .i64 0, .slice (some ⟨w.heap.size, 0, none⟩) 1 1, .string ⟨#[48, 49, 49, 49, 49, 49, 49, 49, 48, 49]⟩,
      .int .i64 0, .slice (some ⟨w.heap.size + 1, 0, none⟩) 1 1, .string ⟨#[49, 49, 49, 49, 49, 49, 49, 48, 49, 49]⟩, .int .i64 0, .slice (some ⟨w.heap.size + 2, 0, none⟩) 1 1, .string ⟨#[49, 48, 48, 48, 48, 49, 49, 48, 49]⟩,
      .int .i64 0, .slice (some ⟨w.heap.size + 3, 0, none⟩) 1 1, .string ⟨#[49, 49, 49, 49, 49, 49, 49, 48, 49, 49]⟩] 23) (fun i _ => 5 - (intOf i).toNat)
  case atStart =>
    refine ⟨0, by omega, rfl, (((((Only.refl [] w).alloc _).alloc _).alloc _).alloc _).alloc _, ?_, ?_, ?_, ?_, ?_⟩
    · exact ((((Blk.new w _ _).alloc _).alloc _).alloc _).alloc _
    · exact (((Blk.new' _ _ (by simp)).alloc _).alloc _).alloc _
    · exact ((Blk.new' _ _ (by simp)).alloc _).alloc _
    · exact (Blk.new' _ _ (by simp)).alloc _
    · exact Blk.new' _ _ (by simp)
  case round =>
    obtain ⟨k, hk, rfl, ho, B1, B2, B3, B4, S0⟩ := hrel
    have D0 := Lib.hid ho
    have D1 := Lib.hid B1
    have D2 := Lib.hid B2
    have D3 := Lib.hid B3
    have D4 := Lib.hid B4
    have DS := Lib.hid S0
    have hsz := S0.lt
    have hbk : ∀ j, w.heap.size + 4 < wr.heap.size + j := fun j => by omega
    clear ho B1 B2 B3 B4
    obtain rfl | rfl | rfl | rfl | rfl | rfl : k = 0 ∨ k = 1 ∨ k = 2 ∨ k = 3 ∨ k = 4 ∨ k = 5 := by omega
    · have e0 : wr.cell? ⟨w.heap.size + 4, 0, none⟩ = some _ := (S0.cell 0).trans rfl
      have e1 : wr.cell? ⟨w.heap.size + 4, 1, none⟩ = some _ := (S0.cell 1).trans rfl
      have e2 : wr.cell? ⟨w.heap.size + 4, 2, none⟩ = some _ := (S0.cell 2).trans rfl
      clear S0
      go_wp2_with fail
      refine Calls.mono (C0.out _) ?_
      rintro en w1 ⟨bt, rfl, r1⟩
      have hv := (((Blk.new wr _ _).only r1 (by simp)).cell 2).trans rfl
      have hA : Only [] wr w1 := ((Only.refl [] wr).alloc _).trans r1 (by simp)
      have E0 := Lib.hid hA
      clear hA r1
      go_wp2_with fail
      go_roundw
      case rel => exact ⟨1, by omega, by first | rfl | go_num, D0.out.trans E0.out (by simp), D1.out.only E0.out (by simp), D2.out.only E0.out (by simp), D3.out.only E0.out (by simp), D4.out.only E0.out (by simp), DS.out.only E0.out (by simp)⟩
      case measure => simp [intOf]
    · have e0 : wr.cell? ⟨w.heap.size + 4, 3, none⟩ = some _ := (S0.cell 3).trans rfl
      have e1 : wr.cell? ⟨w.heap.size + 4, 4, none⟩ = some _ := (S0.cell 4).trans rfl
      have e2 : wr.cell? ⟨w.heap.size + 4, 5, none⟩ = some _ := (S0.cell 5).trans rfl
      clear S0
      go_wp2_with fail
      refine Calls.mono (C1.out _ _ (D1.out.alloc _)) ?_
      rintro en w1 ⟨bt, rfl, r1⟩
      have hv := (((Blk.new wr _ _).only r1 (by simp)).cell 2).trans rfl
      have hA : Only [] wr w1 := ((Only.refl [] wr).alloc _).trans r1 (by simp)
      have E0 := Lib.hid hA
      clear hA r1
      go_wp2_with fail
      go_roundw
      case rel => exact ⟨2, by omega, by first | rfl | go_num, D0.out.trans E0.out (by simp), D1.out.only E0.out (by simp), D2.out.only E0.out (by simp), D3.out.only E0.out (by simp), D4.out.only E0.out (by simp), DS.out.only E0.out (by simp)⟩
      case measure => simp [intOf]
    · have e0 : wr.cell? ⟨w.heap.size + 4, 6, none⟩ = some _ := (S0.cell 6).trans rfl
      have e1 : wr.cell? ⟨w.heap.size + 4, 7, none⟩ = some _ := (S0.cell 7).trans rfl
      have e2 : wr.cell? ⟨w.heap.size + 4, 8, none⟩ = some _ := (S0.cell 8).trans rfl
      clear S0
      go_wp2_with fail
      refine Calls.mono (C2.out _ _ (D2.out.alloc _)) ?_
      rintro en w1 ⟨bt, rfl, r1⟩
      have hv := (((Blk.new wr _ _).only r1 (by simp)).cell 2).trans rfl
      have hA : Only [] wr w1 := ((Only.refl [] wr).alloc _).trans r1 (by simp)
      have E0 := Lib.hid hA
      clear hA r1
      go_wp2_with fail
      go_roundw
      case rel => exact ⟨3, by omega, by first | rfl | go_num, D0.out.trans E0.out (by simp), D1.out.only E0.out (by simp), D2.out.only E0.out (by simp), D3.out.only E0.out (by simp), D4.out.only E0.out (by simp), DS.out.only E0.out (by simp)⟩
      case measure => simp [intOf]
    · have e0 : wr.cell? ⟨w.heap.size + 4, 9, none⟩ = some _ := (S0.cell 9).trans rfl
      have e1 : wr.cell? ⟨w.heap.size + 4, 10, none⟩ = some _ := (S0.cell 10).trans rfl
      have e2 : wr.cell? ⟨w.heap.size + 4, 11, none⟩ = some _ := (S0.cell 11).trans rfl
      clear S0
      go_wp2_with fail
      refine Calls.mono (C3.out _ _ (D3.out.alloc _)) ?_
      rintro en w1 ⟨bt, rfl, r1⟩
      have hv := (((Blk.new wr _ _).only r1 (by simp)).cell 2).trans rfl
      have hA : Only [] wr w1 := ((Only.refl [] wr).alloc _).trans r1 (by simp)
      have E0 := Lib.hid hA
      clear hA r1
      go_wp2_with fail
      go_roundw
      case rel => exact ⟨4, by omega, by first | rfl | go_num, D0.out.trans E0.out (by simp), D1.out.only E0.out (by simp), D2.out.only E0.out (by simp), D3.out.only E0.out (by simp), D4.out.only E0.out (by simp), DS.out.only E0.out (by simp)⟩
      case measure => simp [intOf]
    · have e0 : wr.cell? ⟨w.heap.size + 4, 12, none⟩ = some _ := (S0.cell 12).trans rfl
      have e1 : wr.cell? ⟨w.heap.size + 4, 13, none⟩ = some _ := (S0.cell 13).trans rfl
      have e2 : wr.cell? ⟨w.heap.size + 4, 14, none⟩ = some _ := (S0.cell 14).trans rfl
      clear S0
      go_wp2_with fail
      refine Calls.mono (C4.out _ _ (D4.out.alloc _)) ?_
      rintro en w1 ⟨bt, rfl, r1⟩
      have hv := (((Blk.new wr _ _).only r1 (by simp)).cell 2).trans rfl
      have hA : Only [] wr w1 := ((Only.refl [] wr).alloc _).trans r1 (by simp)
      have E0 := Lib.hid hA
      clear hA r1
      go_wp2_with fail
      go_roundw
      case rel => exact ⟨5, by omega, by first | rfl | go_num, D0.out.trans E0.out (by simp), D1.out.only E0.out (by simp), D2.out.only E0.out (by simp), D3.out.only E0.out (by simp), D4.out.only E0.out (by simp), DS.out.only E0.out (by simp)⟩
      case measure => simp [intOf]
    · clear S0 hbk hsz
      go_wp2_with fail
      refine (new_any 0 0 _ (by decide) (by decide)).mono ?_
      rintro en w1 ⟨bt, rfl, a1, a2, a3⟩
      have A1 := Lib.hid a2
      have A2 := Lib.hid (D0.out.trans a3 (by simp))
      have A3 := Lib.hid (Nat.le_trans D0.out.size a1)
      clear a1 a2 a3
      go_wp2_with fail
      refine (write_any _).mono ?_
      rintro en w2 ⟨bw, rfl, b1, b2, b3⟩
      have B1 := Lib.hid b2
      have B2 := Lib.hid (A2.out.trans b3 (by simp))
      have B3 := Lib.hid (A1.out.only b3 (by simp))
      have B4 := Lib.hid b1
      clear b1 b2 b3
      go_wp2_with fail
      refine (Cd.new (n := w.heap.size) B1.out rfl (by simp) B3.out (by have := A1.out.lt; have := B4.out; simp; omega) (by have := A3.out; have := B4.out; have := A2.out.size; simp; omega)).mono ?_
      rintro en w3 ⟨b, rfl, h1, h2, h3⟩
      have C1 := Lib.hid h2
      have C2 := Lib.hid (B2.out.trans h3 (by simp))
      clear h1 h2 h3
      have f5 := C1.out.enc.cells.2.2.2.2.1
      go_wp2_with fail
      refine (put_bad_any (b := b) f5 (286, 0) (by simp [Bn.ok])).mono ?_
      rintro en w4 ⟨rfl, h1⟩
      have E1 := Lib.hid (C1.out.only h1 (by simp))
      have E2 := Lib.hid (C2.out.trans h1 (by simp))
      clear h1 f5
      have f5 := E1.out.enc.cells.2.2.2.2.1
      go_wp2_with fail
      refine (put_bad_any (b := b) f5 (0, 2) (by simp [Bn.ok])).mono ?_
      rintro en w5 ⟨rfl, h1⟩
      have F1 := Lib.hid (E1.out.only h1 (by simp))
      have F2 := Lib.hid (E2.out.trans h1 (by simp))
      clear h1 f5
      have f5 := F1.out.enc.cells.2.2.2.2.1
      go_wp2_with fail
      refine (bins_bad_any (b := b) (G := [w5.heap.size]) (l := [(0, 0), (-2, 0)]) (((F1.out.enc.only ((Only.refl [] w5).alloc _) (by simp) (by simp)).cells).2.2.2.2.1) (by have := F1.out.enc.lt; simp; omega) (new_bins [(0, 0), (-2, 0)] (Blk.new w5 _ _) (by simp)) ⟨(-2, 0), by simp, by simp [Bn.ok]⟩ (by simp)).mono ?_
      rintro en w6 ⟨rfl, h1⟩
      have G1 := Lib.hid (F1.out.only (((Only.refl [] w5).alloc _).trans h1 (by simp)) (by simp))
      have G2 := Lib.hid (F2.out.trans (((Only.refl [] w5).alloc _).trans h1 (by simp)) (by simp))
      clear h1 f5
      go_wp2_with fail
      refine (G1.out.stop0 (by simp [E.ini])).mono ?_
      rintro en w7 ⟨rfl, H7, h1, _, h2⟩
      have K1 := Lib.hid h1
      have K2 := Lib.hid (G2.out.past h2 (fun x hx => G1.out.n x (by simp only [List.mem_cons, List.mem_append] at hx ⊢; rcases hx with q | q | q <;> simp [q])))
      clear h1 h2
      go_wp2_with fail
      refine (len_any K1.out.wr (by simp)).mono ?_
      rintro en w8 ⟨rfl, n, rfl⟩
      have hD : Only [] w7 (w7.drewN n) := (Only.refl [] w7).drewN n
      have L1 := Lib.hid (K1.out.only hD (by simp))
      have L2 := Lib.hid (K2.out.trans hD (by simp))
      clear hD
      generalize w7.drewN n = w9 at *
      go_wp2_with fail
      refine (L1.out.stop1 (by decide +kernel)).mono ?_
      rintro en w10 ⟨rfl, F', r1, r2, r3, r4, r5, r6⟩
      have M0 : Hid (Wr w10 bw F' [1, 1, 1, 1, 1, 1, 0, 1, 1]) := r1
      have M1 := Lib.hid r2
      have M2 := Lib.hid r3
      have M3 := Lib.hid (L2.out.past r6 (fun x hx => L1.out.n x (by simp only [List.mem_cons, List.mem_append] at hx ⊢; rcases hx with q | q | q | q <;> simp [q])))
      clear r1 r2 r3 r4 r5 r6
      go_wp2_with fail
      refine (bits_any M0.out (by decide)).mono ?_
      rintro en w11 ⟨rfl, r1⟩
      have N0 := Lib.hid (M0.out.only r1 (by simp) (by simp))
      have N1 := Lib.hid (M1.out.only r1 (by simp))
      have hbl := L1.out.enc.lt
      have N2 : Hid (w11.cell? ⟨b, 5, none⟩ = some (.bool true)) := (World.cell?_of_block (r1.block b (World.block_lt_of_cell? _ _ M2.out) (by simp))).trans M2.out
      have N3 := Lib.hid (M3.out.trans r1 (by simp))
      clear r1 hbl
      rw [show txt [1, 1, 1, 1, 1, 1, 0, 1, 1] = ⟨#[49, 49, 49, 49, 49, 49, 48, 49, 49]⟩ from rfl]
      go_wp2_with fail
      refine (put_ended_any (b := b) N2.out 999 0).mono ?_
      rintro en w12 ⟨rfl, r1⟩
      have P0 := Lib.hid (N0.out.only r1 (by simp) (by simp))
      have P1 := Lib.hid (N1.out.only r1 (by simp))
      have P2 : Hid (w12.cell? ⟨b, 5, none⟩ = some (.bool true)) := (World.cell?_of_block (r1.block b (World.block_lt_of_cell? _ _ N2.out) (by simp))).trans N2.out
      have P3 := Lib.hid (N3.out.trans r1 (by simp))
      clear r1
      go_wp2_with fail
      refine (stop_ended_any (b := b) P2.out).mono ?_
      rintro en w13 ⟨rfl, r1⟩
      have S0 := Lib.hid (P0.out.only r1 (by simp) (by simp))
      have S3 := Lib.hid (P3.out.trans r1 (by simp))
      clear r1
      go_wp2_with fail
      refine (enew_state_any (bt := bt) S0.out (by decide) (by decide)).mono ?_
      rintro en w14 ⟨rfl, r1⟩
      have T3 := Lib.hid (S3.out.trans r1 (by simp))
      clear r1
      go_wp2_with fail
      refine enew_nil1_any.mono ?_
      rintro en w15 ⟨rfl, r1⟩
      have U3 := Lib.hid (T3.out.trans r1 (by simp))
      clear r1
      go_wp2_with fail
      refine (write_any _).mono ?_
      rintro en w16 ⟨bw2, rfl, _, _, r1⟩
      have V3 := Lib.hid (U3.out.trans r1 (by simp))
      clear r1
      go_wp2_with fail
      refine enew_nil2_any.mono ?_
      rintro en w17 ⟨rfl, r1⟩
      have X3 := Lib.hid (V3.out.trans r1 (by simp))
      clear r1
      go_wp2_with fail
      refine (put_nil_any 0 0).mono ?_
      rintro en w18 ⟨rfl, r1⟩
      have Y3 := Lib.hid (X3.out.trans r1 (by simp))
      clear r1
      go_wp2_with fail
      refine bins_nil_any.mono ?_
      rintro en w19 ⟨rfl, r1⟩
      have Z3 := Lib.hid (Y3.out.trans r1 (by simp))
      clear r1
      go_wp2_with fail
      refine stop_nil_any.mono ?_
      rintro en w20 ⟨rfl, r1⟩
      have AA := Lib.hid (Z3.out.trans r1 (by simp))
      clear r1
      go_wp2_with fail
      refine (alive_any _).mono ?_
      rintro en w21 ⟨rfl, r1⟩
      have BB := Lib.hid (AA.out.trans r1 (by simp))
      clear r1
      go_wp2_with fail
      go_returns
      exact ⟨rfl, BB.out⟩

end Go.Proofs.Ytbpdhfenomebpaa
