/-
  The encoder: New and Stop.
-/
import Derived.Test.YtbpdhfenomebpaaPut
namespace Go.Proofs.Ytbpdhfenomebpaa
open Go.RowKit Sp

/-- New at a writer of whole bytes. -/
theorem enew_any {w : World} {bw bt : Nat} {F L : List Nat} (hW : Wr w bw F L) (h8 : L.length % 8 = 0) (hL : L.length ≤ 1000000000000) :
    Calls Try.prog 22 #[.pointer (some ⟨bw, 0, none⟩), .pointer (some ⟨bt, 0, none⟩)] w fun en w' => ∃ b, en = .returned (.tuple #[.pointer (some ⟨b, 0, none⟩), .int .i64 0]) ∧
      w.heap.size ≤ b ∧ Enc w' b bw bt [] E.ini ∧ Only [] w w' := by
  have t1 : ((L.length : Int) % 8 != 0) = false := by simp; omega
  have HW := Lib.hid hW
  clear hW
  go_enter Try.func22, Try.ntmps22
  go_wp2_with fail
  refine (len_any HW.out (by omega)).mono ?_
  rintro en w' ⟨rfl, n, rfl⟩
  go_wp2_with fail
  go_returns
  refine ⟨w.heap.size, rfl, Nat.le_refl _, ⟨⟨.slice none 0 0, ?_, Sl.nil _ _ _, rfl⟩⟩, ((Only.refl [] w).drewN n).alloc _⟩
  exact Blk.new' _ _ (by simp)

theorem enew_state_any {w : World} {bw bt : Nat} {F L : List Nat} (hW : Wr w bw F L) (h8 : L.length % 8 ≠ 0) (hL : L.length ≤ 1000000000000) :
    Calls Try.prog 22 #[.pointer (some ⟨bw, 0, none⟩), .pointer (some ⟨bt, 0, none⟩)] w fun en w' => en = .returned (.tuple #[.pointer none, .int .i64 8]) ∧ Only [] w w' := by
  have t1 : ((L.length : Int) % 8 != 0) = true := by simp; omega
  have HW := Lib.hid hW
  clear hW
  go_enter Try.func22, Try.ntmps22
  go_wp2_with fail
  refine (len_any HW.out (by omega)).mono ?_
  rintro en w' ⟨rfl, n, rfl⟩
  go_wp2_with fail
  go_returns
  exact ⟨rfl, (Only.refl [] w).drewN n⟩

theorem enew_nil1_any {w : World} {p : Value} :
    Calls Try.prog 22 #[.pointer none, p] w fun en w' => en = .returned (.tuple #[.pointer none, .int .i64 1]) ∧ Only [] w w' := by
  go_enter Try.func22, Try.ntmps22
  go_wp2_with fail
  go_returns
  exact ⟨rfl, Only.refl _ _⟩

theorem enew_nil2_any {w : World} {bw : Nat} :
    Calls Try.prog 22 #[.pointer (some ⟨bw, 0, none⟩), .pointer none] w fun en w' => en = .returned (.tuple #[.pointer none, .int .i64 1]) ∧ Only [] w w' := by
  go_enter Try.func22, Try.ntmps22
  go_wp2_with fail
  go_returns
  exact ⟨rfl, Only.refl _ _⟩

theorem stop_nil_any {w : World} {x : Bool} :
    Calls Try.prog 25 #[.pointer none, .bool x] w fun en w' => en = .returned (.int .i64 1) ∧ Only [] w w' := by
  go_enter Try.func25, Try.ntmps25
  go_wp2_with fail
  go_returns
  exact ⟨rfl, Only.refl _ _⟩

theorem stop_ended_any {w : World} {b : Nat} {x : Bool} (c5 : w.cell? ⟨b, 5, none⟩ = some (.bool true)) :
    Calls Try.prog 25 #[.pointer (some ⟨b, 0, none⟩), .bool x] w fun en w' => en = .returned (.int .i64 8) ∧ Only [] w w' := by
  go_enter Try.func25, Try.ntmps25
  go_wp2_with fail
  go_returns
  exact ⟨rfl, Only.refl _ _⟩

set_option maxRecDepth 100000 in
set_option maxHeartbeats 1600000 in
theorem stop_false_any {w : World} {b bw bt : Nat} {H : List Nat} {e : E} (h : Enc w b bw bt H e) (hok : e.ok) (hd : e.d ≤ 900000000000) :
    Calls Try.prog 25 #[.pointer (some ⟨b, 0, none⟩), .bool false] w fun en w' => en = .returned (.int .i64 0) ∧
      ∃ H', Enc w' b bw bt H' e.stop0 ∧ (∀ x ∈ H', x ∈ H ∨ w.heap.size ≤ x) ∧ Only (b :: H) w w' := by
  obtain ⟨ok1, ok2, ok3⟩ := hok
  obtain ⟨_, _, _, c4, c5, hfr⟩ := h.cells
  have f4 := hfr 4
  have hs := Lib.hid (h.setR (e.r - 2))
  have hcast : ((e.r - 2 : Nat) : Int) = (e.r : Int) - 2 := by omega
  rw [hcast] at hs
  clear hcast h hfr
  go_enter Try.func25, Try.ntmps25
  go_wp2_with fail
  refine (renorm_any hs.out (by simp only []; omega) (by simp only []; omega) (by simp only []; omega)).mono ?_
  rintro en w2 ⟨rfl, H2, r1, r2, r3⟩
  have R1 := Lib.hid r1
  have R2 := Lib.hid r2
  have R3 := Lib.hid r3
  clear r1 r2 r3
  go_wp2_with fail
  go_returns
  refine ⟨by simp, H2, R1.out, fun x hx => ?_, ((Only.refl (b :: H) w).setCell ⟨b, 4, none⟩ (by simp) _).trans R3.out (fun x hx => .inl hx)⟩
  rcases R2.out x hx with y | y
  · exact .inl y
  · exact .inr (by simpa using y)

theorem out_split (e : E) : e.out = bitsOf e.d ((e.c + (e.r - 2)) / 512) ++ bitsOf 9 (odd ((e.c + (e.r - 2)) % 512)) := by
  unfold E.out
  rw [Nat.add_comm 9 e.d, bitsOf_add]
  have e1 : odd (e.c + (e.r - 2)) / 2 ^ 9 = (e.c + (e.r - 2)) / 512 := by rw [pow9]; unfold odd; omega
  have e2 : bitsOf 9 (odd (e.c + (e.r - 2))) = bitsOf 9 (odd ((e.c + (e.r - 2)) % 512)) := by
    rw [← bitsOf_mod 9 9 _ (Nat.le_refl _), pow9]
    congr 1
    unfold odd
    omega
  rw [e1, e2]

set_option maxRecDepth 100000 in
set_option maxHeartbeats 3200000 in
theorem stop_true_any {w : World} {b bw bt : Nat} {H F L : List Nat} {e : E} (h : Enc w b bw bt H e) (hok : e.ok) (hW : Wr w bw F L) (hbw : bw ∉ b :: H) (hF : ∀ x ∈ F, x ∉ b :: H) (hd : e.d + L.length ≤ 900000000000) :
    Calls Try.prog 25 #[.pointer (some ⟨b, 0, none⟩), .bool true] w fun en w' => en = .returned (.int .i64 0) ∧
      ∃ F', Wr w' bw F' (L ++ e.out) ∧ w'.cell? ⟨b, 5, none⟩ = some (.bool true) ∧ (∀ x ∈ F', x ∈ F ∨ w.heap.size ≤ x) ∧ Only (b :: bw :: (H ++ F)) w w' := by
  obtain ⟨ok1, ok2, ok3⟩ := hok
  obtain ⟨_, _, _, c4, c5, hfr⟩ := h.cells
  have f4 := hfr 4
  have hs := Lib.hid (h.setR (e.r - 2))
  have hcast : ((e.r - 2 : Nat) : Int) = (e.r : Int) - 2 := by omega
  have HC := Lib.hid hcast
  have HW := Lib.hid hW
  have HB := Lib.hid hbw
  have HF := Lib.hid hF
  have HE := Lib.hid h
  clear hcast hfr hW hbw hF h
  go_enter Try.func25, Try.ntmps25
  go_wp2_with fail
  rw [← HC.out]
  refine (add_any hs.out (by simp only []; omega) (e.r - 2) (by omega) (by simp only []; omega)).mono ?_
  rintro en w2 ⟨rfl, r1, r2⟩
  obtain ⟨v, hblk, hsl, hH⟩ := r1.here
  simp only [] at hblk hsl
  have hne := hblk.ne_row hsl (by decide)
  have y5 : w2.cell? ⟨b, 5, none⟩ = some (.bool false) := (hblk.cell 5).trans rfl
  have y2 : w2.cell? ⟨b, 2, none⟩ = some v := (hblk.cell 2).trans rfl
  have yf5 := hblk.free 5
  obtain ⟨a0, cap0, rfl⟩ := hsl.form
  have K1 := Lib.hid (hblk.set 5 (.bool true))
  have K2 := Lib.hid (hsl.set_other ⟨b, 5, none⟩ (fun x => hne b x rfl) (.bool true))
  have K3 : Hid (Only (b :: H) w (w2.setCell ⟨b, 5, none⟩ (.bool true))) := (((Only.refl (b :: H) w).setCell ⟨b, 4, none⟩ (by simp) _).trans r2 (fun x hx => .inl hx)).setCell ⟨b, 5, none⟩ (by simp) _
  have K4 := Lib.hid hH
  clear hblk hsl hH r1 r2 hne
  obtain ⟨hd0, hhd⟩ : ∃ l, l = bitsOf e.d ((e.c + (e.r - 2)) / 512) := ⟨_, rfl⟩
  rw [← hhd] at K2
  have hhl : hd0.length = e.d := by rw [hhd, bitsOf_length]
  have hh1 : ∀ x ∈ hd0, x ≤ 1 := by rw [hhd]; exact bitsOf_le _ _
  have K5 := Lib.hid hhd
  have K6 := Lib.hid hh1
  have hbw2 : b < w.heap.size := HE.out.lt
  have hfrH := Lib.hid HE.out.fresh
  have hfrF := Lib.hid HW.out.fresh
  clear hhd hh1
  go_wp2_with fail
  go_loopw [38] (fun i wr => ∃ (k : Nat) (F' : List Nat), k ≤ e.d ∧ i = .int .i64 k ∧ Wr wr bw F' (L ++ hd0.take k) ∧ (∀ x ∈ F', x ∈ F ∨ w.heap.size ≤ x) ∧ Only (b :: bw :: (H ++ F)) w wr ∧
    Blk wr b #[.pointer (some ⟨bw, 0, none⟩), .pointer (some ⟨bt, 0, none⟩), .slice a0 e.d cap0, .int .i64 (((e.c + (e.r - 2)) % 512 : Nat)), .int .i64 ((e.r - 2 : Nat)), .bool true] 152 ∧
    Sl wr 5 1 (.slice a0 e.d cap0) e.d (hd0.map byteV)) (fun i _ => e.d - (intOf i).toNat)
  case atStart =>
    refine ⟨0, F, Nat.zero_le _, rfl, ?_, fun x hx => .inl hx, K3.out.mono (fun x hx => ?_), K1.out, K2.out⟩
    · rw [List.take_zero, List.append_nil]
      exact HW.out.only K3.out HB.out HF.out
    · rcases List.mem_cons.1 hx with y | y
      · simp [y]
      · simp [y]
  case round =>
    obtain ⟨k, F', hk, rfl, hW, hF', hO, hBl, hS⟩ := hrel
    have c0 : wr.cell? ⟨b, 0, none⟩ = some (.pointer (some ⟨bw, 0, none⟩)) := (hBl.cell 0).trans rfl
    have c3 : wr.cell? ⟨b, 3, none⟩ = some (.int .i64 (((e.c + (e.r - 2)) % 512 : Nat))) := (hBl.cell 3).trans rfl
    have hdis : ∀ y, y ∈ b :: H → y ∉ bw :: F' := by
      intro y hy hm
      have hyw : y < w.heap.size := by
        rcases List.mem_cons.1 hy with z | z
        · rw [z]; exact hbw2
        · exact hfrH.out y z
      rcases List.mem_cons.1 hm with z | z
      · rw [z] at hy; exact HB.out hy
      · rcases hF' y z with q | q
        · exact HF.out y q hy
        · omega
    have D0 := Lib.hid hdis
    have D1 := Lib.hid hW
    have D2 := Lib.hid hF'
    have D3 := Lib.hid hO
    have D4 := Lib.hid hBl
    have D5 := Lib.hid hS
    clear hdis hW hF' hO hBl
    have D6 : Hid (∀ (n x : Nat) (w3 : World) (F3 : List Nat) (S : List Nat), Wr w3 bw F3 S → (∀ y ∈ F3, y ∈ F' ∨ wr.heap.size ≤ y) → Only (bw :: F') wr w3 →
        (∀ y ∈ F3, y ∈ F ∨ w.heap.size ≤ y) ∧ Only (b :: bw :: (H ++ F)) w w3 ∧
        Blk w3 b #[.pointer (some ⟨bw, 0, none⟩), .pointer (some ⟨bt, 0, none⟩), .slice a0 e.d cap0, .int .i64 (((e.c + (e.r - 2)) % 512 : Nat)), .int .i64 ((e.r - 2 : Nat)), .bool true] 152 ∧
        Sl w3 5 1 (.slice a0 e.d cap0) e.d (hd0.map byteV)) := by
      intro _ _ w3 F3 S q1 q2 q3
      refine ⟨?_, ?_, D4.out.only q3 (D0.out b (by simp)), D5.out.only q3 (fun y hy => D0.out y (by rw [K4.out]; exact List.mem_cons_of_mem _ (by simpa using hy)))⟩
      · intro y hy
        rcases q2 y hy with z | z
        · exact D2.out y z
        · exact .inr (Nat.le_trans D3.out.size z)
      · refine D3.out.trans q3 (fun y hy => ?_)
        rcases List.mem_cons.1 hy with z | z
        · exact .inl (by simp [z])
        · rcases D2.out y z with q | q
          · exact .inl (by simp [q])
          · exact .inr q
    by_cases hlt : k < e.d
    · obtain ⟨g, cap, hv, _, hgl⟩ := World.ownsRow.form hS (by omega)
      obtain ⟨rfl, rfl⟩ : a0 = some ⟨g, 0, none⟩ ∧ cap0 = cap := by simpa using hv
      have cg : wr.cell? ⟨g, k, none⟩ = some (.int .u8 (hd0[k]'(by omega))) := by
        rw [hS.cells k (by omega), List.getElem?_map, List.getElem?_eq_getElem (by omega)]; rfl
      have hx1 := K6.out (hd0[k]'(by omega)) (List.getElem_mem _)
      have hcap : e.d ≤ cap0 := by obtain ⟨_, _, q, _⟩ := hS.row; exact q
      obtain ⟨x, hx⟩ : ∃ x, x = hd0[k]'(by omega) := ⟨_, rfl⟩
      rw [← hx] at cg hx1
      have HX := Lib.hid hx
      clear hx hS hv
      go_wp2_with fail
      refine (put_any D1.out 1 x (by omega) (by omega) (by simp; omega)).mono ?_
      rintro en w3 ⟨rfl, F3, q1, q2, q3⟩
      have R := D6.out 0 0 w3 F3 _ q1 q2 q3
      have R2 := Lib.hid R
      have R1 := Lib.hid q1
      clear R q1 q2 q3
      go_wp2_with fail
      go_roundw
      case rel =>
        refine ⟨k + 1, F3, by omega, by go_num, ?_, R2.out⟩
        have e1 : hd0.take (k + 1) = hd0.take k ++ bitsOf 1 x := by
          rw [List.take_succ_eq_append_getElem (by omega), HX.out]
          have := K6.out (hd0[k]'(by omega)) (List.getElem_mem _)
          rw [show bitsOf 1 (hd0[k]'(by omega)) = [(hd0[k]'(by omega)) % 2] from rfl, Nat.mod_eq_of_lt (by omega)]
        rw [e1, ← List.append_assoc]
        exact R1.out
      case measure => simp [intOf]; omega
    · obtain rfl : k = e.d := by omega
      clear hS
      obtain ⟨low, hlow⟩ : ∃ low, low = (e.c + (e.r - 2)) % 512 := ⟨_, rfl⟩
      rw [← hlow] at c3
      have hl2 : low < 512 := by omega
      obtain ⟨o, ho⟩ : ∃ o, o = odd low := ⟨_, rfl⟩
      have ho2 : o < 512 := by rw [ho]; unfold odd; omega
      have hor : bits BinOp.or IntKind.i64 (low : Int) 1 = (o : Int) := by rw [or_1 low hl2, ho]
      have hwr : IntKind.u64.wrap (o : Int) = o := by rw [IntKind.wrap_u64]; omega
      have HL := Lib.hid hlow
      have HO := Lib.hid ho
      clear hlow ho
      go_wp2_with fail
      go_region_with (go_at_call 36; refine (put_any (D1.out.only ((Only.refl [] wr).drew) (by simp) (by simp)) 9 o (by omega) (by rw [pow9]; exact ho2) (by simp; omega)).mono ?_; rintro en w3 ⟨rfl, F3, q1, q2, q3⟩; have R := D6.out 0 0 w3 F3 _ q1 q2 (((Only.refl (bw :: F') wr).drew).trans q3 (fun y hy => .inl hy)); have R2 := Lib.hid R; have R1 := Lib.hid q1; clear R q1 q2 q3)
      all_goals
        go_wp2_with fail
        go_returns
        refine ⟨rfl, F3, ?_, (R2.out.2.2.1.cell 5).trans rfl, R2.out.1, R2.out.2.1⟩
        have e2 : hd0.take e.d = hd0 := List.take_of_length_le (by omega)
        have := R1.out
        rw [e2, K5.out, HO.out, HL.out, List.append_assoc, ← out_split] at this
        exact this

end Go.Proofs.Ytbpdhfenomebpaa
