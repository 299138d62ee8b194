/-
  Layer 25's law: writer.
-/
import Derived.Test.YtbpdhfenomebpaaAlive
namespace Go.Proofs.Ytbpdhfenomebpaa
open Go.RowKit Sp

theorem run_txt_add {P : Program} (W : World) (A B : List Nat) (h : A.length + B.length ≤ 4611686018427387904) : (Op.stringOp .add (txt A) (txt B)).run P W = .ok (.string (txt (A ++ B))) W := by
  unfold txt
  rw [run_strOf_add W _ _ (by simpa using h), List.map_append]

theorem txt_one : txt [1] = ⟨#[49]⟩ := rfl
theorem txt_nil : txt [] = ⟨#[]⟩ := rfl

set_option maxRecDepth 100000 in
set_option maxHeartbeats 1600000 in
theorem writer_any {w : World} (n : Nat) (hn : n ≤ 1000) :
    Calls Try.prog 30 #[.int .i64 n] w fun en w' => ∃ (b : Nat) (F : List Nat), en = .returned (.tuple #[.pointer (some ⟨b, 0, none⟩), .string (txt (List.replicate n 1))]) ∧
      w.heap.size ≤ b ∧ (∀ x ∈ F, w.heap.size ≤ x) ∧ Wr w' b F (List.replicate n 1) ∧ Only [] w w' := by
  go_enter Try.func30, Try.ntmps30
  go_wp2_with fail
  refine (write_any _).mono ?_
  rintro en w1 ⟨b, rfl, a1, a2, a3⟩
  have A1 := Lib.hid a1
  have A2 := Lib.hid a2
  have A3 := Lib.hid a3
  clear a1 a2 a3
  go_wp2_with fail
  go_loopw [5, 8] (fun s i wr => ∃ (k : Nat) (F : List Nat), k ≤ n ∧ i = .int .i64 k ∧ s = .string (txt (List.replicate k 1)) ∧ Wr wr b F (List.replicate k 1) ∧ (∀ x ∈ F, w.heap.size ≤ x) ∧ Only [] w wr) (fun _ i _ => n - (intOf i).toNat)
  case atStart => exact ⟨0, [], Nat.zero_le _, rfl, rfl, A2.out, by simp, A3.out⟩
  case round =>
    obtain ⟨k, F, hk, rfl, rfl, hW, hF, ho⟩ := hrel
    have B1 := Lib.hid hW
    have B2 := Lib.hid hF
    have B3 := Lib.hid ho
    clear hW hF ho
    by_cases hlt : k < n
    · have hadd := fun W => run_txt_add (P := Try.prog) W (List.replicate k 1) [1] (by simp; omega)
      rw [txt_one] at hadd
      have e1 : List.replicate k 1 ++ [1] = List.replicate (k + 1) 1 := by rw [List.replicate_succ']
      rw [e1] at hadd
      obtain ⟨t0, h0⟩ : ∃ t, t = txt (List.replicate k 1) := ⟨_, rfl⟩
      obtain ⟨t1, h1⟩ : ∃ t, t = txt (List.replicate (k + 1) 1) := ⟨_, rfl⟩
      rw [← h0, ← h1] at hadd
      rw [← h0]
      have E1 := Lib.hid e1
      have T1 := Lib.hid h1
      clear e1 h0 h1
      go_wp2_with fail
      refine (put_any B1.out 1 1 (by decide) (by decide) (by simp; omega)).mono ?_
      rintro en w2 ⟨rfl, F2, r1, r2, r3⟩
      have C1 := Lib.hid r1
      have C2 : Hid (∀ x ∈ F2, w.heap.size ≤ x) := by
        intro x hx
        rcases r2 x hx with q | q
        · exact B2.out x q
        · have := B3.out.size; omega
      have C3 := Lib.hid (B3.out.past r3 (fun x hx => by
        rcases List.mem_cons.1 hx with q | q
        · rw [q]; exact A1.out
        · exact B2.out x q))
      clear r1 r2 r3
      go_wp2_with fail
      go_roundw
      case rel => exact ⟨k + 1, F2, by omega, by go_num, by rw [T1.out], by rw [← E1.out]; exact C1.out, C2.out, C3.out⟩
      case measure => simp [intOf]; omega
    · obtain rfl : k = n := by omega
      go_wp2_with fail
      go_returns
      exact ⟨b, F, rfl, A1.out, B2.out, B1.out, B3.out⟩

end Go.Proofs.Ytbpdhfenomebpaa
