/-
  The writer of bits: what Write, Len and Bytes do.
-/
import Derived.Test.YtbpdhfenomebpaaWr
import Derived.Laws.IdiomStrings
import Derived.Laws.BytesArg
namespace Go.Proofs.Ytbpdhfenomebpaa
open Go.RowKit Sp

theorem write_any (w : World) : Calls Try.prog 21 #[] w fun e w' => ∃ b, e = .returned (.pointer (some ⟨b, 0, none⟩)) ∧ w.heap.size ≤ b ∧ Wr w' b [] [] ∧ Only [] w w' := by
  go_enter Try.func21, Try.ntmps21
  go_wp2
  go_returns
  exact ⟨w.heap.size, rfl, Nat.le_refl _, ⟨⟨.slice none 0 0, [], 0, 0, Blk.new _ _ _, Sl.nil _ _ _, rfl, by decide, by decide, by simp, by simp [bits8, bitsOf]⟩⟩, (Only.refl [] w).alloc _⟩

theorem Wr.lt {w : World} {b : Nat} {F L : List Nat} (h : Wr w b F L) : b < w.heap.size := by
  obtain ⟨v, B, part, cnt, hblk, _⟩ := h.here
  exact hblk.lt
theorem Wr.fresh {w : World} {b : Nat} {F L : List Nat} (h : Wr w b F L) : ∀ x ∈ F, x < w.heap.size := by
  obtain ⟨v, B, part, cnt, hblk, hsl, hF, _⟩ := h.here
  intro x hx
  rw [hF] at hx
  exact hsl.lt (by simpa using hx)
theorem Wr.only {w w' : World} {b : Nat} {F L S : List Nat} (h : Wr w b F L) (ho : Only S w w') (hb : b ∉ S) (hS : ∀ x ∈ F, x ∉ S) : Wr w' b F L := by
  obtain ⟨v, B, part, cnt, hblk, hsl, hF, hr⟩ := h.here
  exact ⟨⟨v, B, part, cnt, hblk.only ho hb, hsl.only ho (fun k hk => hS k (by rw [hF, hk]; simp)), hF, hr⟩⟩

set_option maxHeartbeats 1600000 in
theorem len_any {w : World} {b : Nat} {F L : List Nat} (h : Wr w b F L) (hL : L.length ≤ 1099511627776) :
    Calls Try.prog 26 #[.pointer (some ⟨b, 0, none⟩)] w fun e w' => e = .returned (.int .i64 L.length) ∧ ∃ n, w' = w.drewN n := by
  obtain ⟨v0, B, part, cnt, hblk, hsl, hF, hc, hp, hB, hLB⟩ := h.here
  obtain ⟨a0, cap0, rfl⟩ := hsl.form
  have hl : L.length = 8 * B.length + cnt := by rw [hLB, List.length_append, bits8_length, bitsOf_length]
  have hl2 : 8 * B.length + cnt ≤ 1099511627776 := by omega
  have H := Lib.hid hl
  have c0 : w.cell? ⟨b, 0, none⟩ = some (.slice a0 B.length cap0) := (hblk.cell 0).trans rfl
  have c2 : w.cell? ⟨b, 2, none⟩ = some (.int .i64 cnt) := (hblk.cell 2).trans rfl
  clear hblk hF hLB hsl hB h hl
  go_enter Try.func26, Try.ntmps26
  go_wp2
  go_quiet (fail)
  go_wp2
  go_returns
  refine ⟨?_, _, rfl⟩
  rw [H.out]
  simp only []
  rw [show ((8 * B.length + cnt : Nat) : Int) = 8 * (B.length : Int) + cnt by omega]
  rfl

theorem addr_at (g j : Nat) : (⟨g, 0, none⟩ : Addr).add j = ⟨g, j, none⟩ := by unfold Addr.add; split <;> simp_all

/-- The string of these bytes. -/
def strOf (B : List Nat) : ByteArray := ⟨(B.map UInt8.ofNat).toArray⟩

theorem strOf_size (B : List Nat) : (strOf B).size = B.length := by simp [strOf, ByteArray.size]
theorem run_strOf_add {P : Program} (W : World) (A B : List Nat) (h : A.length + B.length ≤ 4611686018427387904) : (Op.stringOp .add (strOf A) (strOf B)).run P W = .ok (.string (strOf (A ++ B))) W := by
  rw [run_string_add_sum W _ _ (by rw [strOf_size, strOf_size]; omega)]
  unfold strOf
  rw [ByteArray.mk_append_mk, List.map_append]

theorem run_str_of {w : World} {v : Value} {B : List Nat} (h : Sl w 5 1 v B.length (B.map byteV)) (hB : ∀ x ∈ B, x < 256) :
    (convert 57 9 v).run Try.prog w = .ok (.string (strOf B)) w := by
  rcases h.2 with ⟨rfl, h0⟩ | ⟨g, cap, cur, rfl, _⟩
  · obtain rfl : B = [] := List.eq_nil_of_length_eq_zero h0
    rw [run_convert_bytes_nil w 57 5 Try.underlying57 Try.underlying5 0 0 9 Try.underlying9]
    rfl
  · have hl : B.length = (B.map UInt8.ofNat).length := by simp
    have key := run_convert_bytes_back (P := Try.prog) w 57 9 5 ⟨g, 0, none⟩ cap (B.map UInt8.ofNat) Try.underlying57 Try.underlying5 Try.underlying9 (fun j hj => by
      have hj' : j < B.length := by simpa using hj
      rw [addr_at, h.cells j (by omega)]
      rw [List.getElem?_map, List.getElem?_eq_getElem hj']
      have e : (UInt8.ofNat B[j]).toNat = B[j] := UInt8.toNat_ofNat_of_lt' (hB B[j] (List.getElem_mem _))
      simp only [List.getElem_map, e, Option.map_some, byteV])
    rw [← hl] at key
    exact key

set_option maxHeartbeats 1600000 in
theorem bytes_any {w : World} {b : Nat} {F L : List Nat} (h : Wr w b F L) (hL : L.length ≤ 1099511627776) :
    Calls Try.prog 92 #[.pointer (some ⟨b, 0, none⟩)] w fun e w' => ∃ B : List Nat, e = .returned (.string (strOf B)) ∧ (∀ x ∈ B, x < 256) ∧ L <+: bits8 B ∧ 8 * B.length < L.length + 8 ∧ Only [] w w' := by
  obtain ⟨v0, B, part, cnt, hblk, hsl, hF, hc, hp, hB, hLB⟩ := h.here
  obtain ⟨a0, cap0, rfl⟩ := hsl.form
  have hl : L.length = 8 * B.length + cnt := by rw [hLB, List.length_append, bits8_length, bitsOf_length]
  have c0 : w.cell? ⟨b, 0, none⟩ = some (.slice a0 B.length cap0) := (hblk.cell 0).trans rfl
  have c1 : w.cell? ⟨b, 1, none⟩ = some (.int .u8 part) := (hblk.cell 1).trans rfl
  have c2 : w.cell? ⟨b, 2, none⟩ = some (.int .i64 cnt) := (hblk.cell 2).trans rfl
  have hb := hblk.lt
  have hbk : ∀ j, b < w.heap.size + j := fun j => by omega
  have hconv := run_str_of hsl hB
  have hconv2 : (convert 57 9 (.slice a0 B.length cap0)).run Try.prog w.drew = .ok (.string (strOf B)) w.drew := run_str_of hsl.drew hB
  have hconv3 : ∀ o, (convert 57 9 (.slice a0 B.length cap0)).run Try.prog (w.alloc o).drew = .ok (.string (strOf B)) (w.alloc o).drew := fun o => run_str_of (hsl.alloc o).drew hB
  have HF := Lib.hid hF
  have HLB := Lib.hid hLB
  have HS := Lib.hid hsl
  have HB := Lib.hid hB
  have HL := Lib.hid hl
  clear hblk hF hLB hsl hB h hl
  by_cases hc0 : cnt = 0
  · have t1 : ((cnt : Int) == 0) = true := by simp [hc0]
    have H0 := Lib.hid hc0
    clear hc0
    go_enter Try.func92, Try.ntmps92
    go_wp2
    go_returns
    refine ⟨B, rfl, HB.out, ?_, by have := HL.out; have := H0.out; omega, Only.refl _ _⟩
    rw [HLB.out, H0.out]
    simp [bitsOf]
  · have t1 : ((cnt : Int) == 0) = false := by simp; omega
    obtain ⟨x, hx⟩ : ∃ x, x = part * 2 ^ (8 - cnt) % 256 := ⟨_, rfl⟩
    have hxc : (part : Int) * 2 ^ (8 - cnt) % 256 = (x : Int) := by
      rw [hx, Int.natCast_emod, Int.natCast_mul, Int.natCast_pow]; rfl
    have hx256 : x < 256 := by rw [hx]; exact Nat.mod_lt _ (by decide)
    have hsl1 : Sl (w.alloc (.cells #[.int .u8 (x : Int)] 5)) 5 1 (.slice (some ⟨w.heap.size, 0, none⟩) 1 1) 1 ([x].map byteV) :=
      ⟨rfl, .inr ⟨w.heap.size, 1, _, rfl, Nat.zero_le _, Blk.new _ _ _, Nat.le_refl _, by decide, rfl, rfl⟩⟩
    have hconv4 : (convert 57 9 (.slice (some ⟨w.heap.size, 0, none⟩) 1 1)).run Try.prog (w.alloc (.cells #[.int .u8 (x : Int)] 5)).drew = .ok (.string (strOf [x])) (w.alloc (.cells #[.int .u8 (x : Int)] 5)).drew :=
      run_str_of (B := [x]) hsl1.drew (by simpa using hx256)
    have hcat := fun W => run_strOf_add (P := Try.prog) W B [x] (by have := HL.out; simp; omega)
    have HX := Lib.hid hx
    have H0 := Lib.hid hc0
    clear hsl1 hc0 hx
    go_enter Try.func92, Try.ntmps92
    go_wp2
    go_region
    go_wp2
    all_goals
      go_returns
      refine ⟨B ++ [x], rfl, ?_, ?_, ?_, ((Only.refl [] w).alloc _).drew⟩
      · intro y hy
        rcases List.mem_append.1 hy with hy | hy
        · exact HB.out y hy
        · simp only [List.mem_singleton] at hy; omega
      · rw [HLB.out, bits8_append, bits8_one]
        refine (List.prefix_append_right_inj _).2 ?_
        have e1 : x = part * 2 ^ (8 - cnt) := by
          have hp2 : 2 ^ cnt * 2 ^ (8 - cnt) = 256 := by rw [← Nat.pow_add, show cnt + (8 - cnt) = 8 by omega]
          have hp3 : part * 2 ^ (8 - cnt) < 256 := by rw [← hp2]; exact Nat.mul_lt_mul_of_pos_right hp (Nat.pow_pos (by decide))
          rw [HX.out, Nat.mod_eq_of_lt hp3]
        have e2 : bitsOf 8 x = bitsOf cnt part ++ bitsOf (8 - cnt) x := by
          have := bitsOf_add cnt (8 - cnt) x
          rw [show cnt + (8 - cnt) = 8 by omega, e1, Nat.mul_div_cancel _ (Nat.pow_pos (by decide)), ← e1] at this
          exact this
        rw [e2]
        exact List.prefix_append _ _
      · have := HL.out
        have := H0.out
        simp
        omega

/-- A bit of bytes. -/
theorem bits8_get (B : List Nat) (i : Nat) (h : i < 8 * B.length) : (bits8 B)[i]? = some ((B.getD (i / 8) 0) / 2 ^ (7 - i % 8) % 2) := by
  induction B generalizing i with
  | nil => simp at h
  | cons x B ih =>
    have hl : (bitsOf 8 x).length = 8 := bitsOf_length 8 x
    show (bitsOf 8 x ++ bits8 B)[i]? = _
    by_cases hi : i < 8
    · rw [List.getElem?_append_left (by omega), show i / 8 = 0 by omega, show i % 8 = i by omega]
      have key : ∀ i, i < 8 → (bitsOf 8 x)[i]? = some (x / 2 ^ (7 - i) % 2) := by
        intro i hi
        have e : bitsOf 8 x = [x / 2 ^ 7 % 2, x / 2 ^ 6 % 2, x / 2 ^ 5 % 2, x / 2 ^ 4 % 2, x / 2 ^ 3 % 2, x / 2 ^ 2 % 2, x / 2 ^ 1 % 2, x / 2 ^ 0 % 2] := by
          simp [bitsOf, Nat.div_div_eq_div_mul]
        rw [e]
        rcases i with _ | _ | _ | _ | _ | _ | _ | _ | i
        all_goals first | rfl | omega
      rw [key i hi]
      rfl
    · rw [List.getElem?_append_right (by omega), hl, ih (i - 8) (by simp at h; omega)]
      rw [show (i - 8) / 8 = i / 8 - 1 by omega, show (i - 8) % 8 = i % 8 by omega]
      obtain ⟨j, hj⟩ : ∃ j, i / 8 = j + 1 := ⟨i / 8 - 1, by omega⟩
      rw [hj]
      simp

/-- Bits as characters. -/
def txt (L : List Nat) : ByteArray := strOf (L.map fun b => 48 + b)

theorem strOf_get (B : List Nat) (hB : ∀ x ∈ B, x < 256) (j : Nat) (h : j < (strOf B).size) : (strOf B)[j].toNat = B.getD j 0 := by
  have hj : j < B.length := by rwa [strOf_size] at h
  have e : (strOf B)[j] = UInt8.ofNat B[j] := by
    change (B.map UInt8.ofNat).toArray[j]'(by simpa using hj) = _
    rw [List.getElem_toArray, List.getElem_map]
  rw [e, UInt8.toNat_ofNat_of_lt' (hB B[j] (List.getElem_mem _))]
  simp [List.getD, hj]

theorem and_1_u8 (x : Nat) (hx : x < 256) : bits BinOp.and IntKind.u8 (x : Int) 1 = ((x % 2 : Nat) : Int) := by
  have := bits_mask .u8 8 (by decide) wraps_u8 1 (by decide) (x : Int) (by omega) (by omega)
  rw [show ((2 : Int) ^ 1 - 1) = 1 from rfl] at this
  rw [this]; rfl

/-- One more cell of a row that is filled from its head. -/
theorem fill_step {α : Type} (L : List α) (f : α → Value) (z : Value) (k : Nat) (h : k < L.length) :
    ((L.take k).map f ++ List.replicate (L.length - k) z).set k (f L[k]) = (L.take (k + 1)).map f ++ List.replicate (L.length - (k + 1)) z := by
  obtain ⟨m, hm⟩ : ∃ m, L.length - k = m + 1 := ⟨L.length - k - 1, by omega⟩
  rw [List.set_append_right _ _ (by simp; omega), hm, List.replicate_succ, List.length_map, List.length_take, Nat.min_eq_left (by omega), Nat.sub_self, List.set_cons_zero,
    List.take_succ_eq_append_getElem h, List.map_append, show L.length - (k + 1) = m by omega, List.append_assoc]
  rfl

theorem txt_size (L : List Nat) : (txt L).size = L.length := by unfold txt; rw [strOf_size, List.length_map]

set_option maxRecDepth 100000 in
set_option maxHeartbeats 1600000 in
theorem bits_any {w : World} {b : Nat} {F L : List Nat} (h : Wr w b F L) (hL : L.length ≤ 1099511627776) :
    Calls Try.prog 27 #[.pointer (some ⟨b, 0, none⟩)] w fun e w' => e = .returned (.string (txt L)) ∧ Only [] w w' := by
  obtain ⟨i0, hi, hz0, hz1, hz2⟩ := info_parts info_u8
  go_enter Try.func27, Try.ntmps27
  go_wp2_with fail
  refine (bytes_any h hL).mono ?_
  rintro e w1 ⟨B, rfl, hB, hpre, hlen, ho⟩
  have h1 := h.only ho (by simp) (by simp)
  have HP := Lib.hid hpre
  have HO := Lib.hid ho
  have HH := Lib.hid h1
  clear hpre ho h h1
  go_wp2_with fail
  refine (len_any HH.out hL).mono ?_
  rintro e w2 ⟨rfl, n, rfl⟩
  have q1 : i0.bytes * L.length ≤ 281474976710656 := by rw [hz2]; omega
  have q2 : L.length ≤ maxLen := by unfold maxLen; omega
  go_wp2_with (at_make; (refine wpList_make_full _ rfl _ _ 57 rfl 0 5 i0 (.int .u8 0) 1 Try.underlying57 hi hz0 hz1 _ _ _ _ L.length rfl rfl rfl rfl q1 q2 (Nat.zero_le _) ?_); intro w2 hown hg; have H1 := Lib.hid hown; have H2 := Lib.hid hg; clear hown hg)
  go_loopw [13] (fun i wr => ∃ k : Nat, k ≤ L.length ∧ i = .int .i64 k ∧ Sl wr 5 1 (.slice (some ⟨w1.heap.size, 0, none⟩) L.length L.length) L.length (((L.take k).map fun b => byteV (48 + b)) ++ List.replicate (L.length - k) (.int .u8 0)) ∧ Only [] w wr) (fun i _ => L.length - (intOf i).toNat)
  case atStart =>
    refine ⟨0, Nat.zero_le _, rfl, ?_, ?_⟩
    · have := H1.out
      rw [Nat.mul_one, show (Value.int IntKind.u8 0).cells = #[.int .u8 0] from rfl, toList_madeCells_one] at this
      simp only [List.take_zero, List.map_nil, List.nil_append, Nat.sub_zero]
      exact this
    · exact HO.out.trans (((Only.refl [] w1).drewN n).of_grown H2.out (by simp)) (by simp)
  case round =>
    obtain ⟨k, hk, rfl, hsl, ho⟩ := hrel
    have HS := Lib.hid hsl
    have HO2 := Lib.hid ho
    by_cases hlt : k < L.length
    · have c0 : wr.cell? ⟨w1.heap.size, k, none⟩ = some (.int .u8 0) := by
        rw [hsl.cells k (by omega), List.getElem?_append_right (by simp; omega), List.getElem?_replicate, if_pos (by simp; omega)]
      have f0 := hsl.free k
      have hs2 : (k : Int) / 8 < ((strOf B).size : Int) := by
        have := HP.out.length_le
        rw [bits8_length] at this
        rw [strOf_size]
        omega
      clear hsl ho
      have hval : ((48 + bits BinOp.and IntKind.u8 (((strOf B)[k / 8]'(by omega)).toNat / 2 ^ (7 - k % 8)) 1) % 256) = ((48 + L[k] : Nat) : Int) := by
        have hlt2 := HP.out.length_le
        rw [bits8_length] at hlt2
        have e1 : (bits8 B)[k]? = some L[k] := by
          obtain ⟨t, ht⟩ := HP.out
          rw [← ht, List.getElem?_append_left hlt, List.getElem?_eq_getElem hlt]
        rw [bits8_get B k (by omega)] at e1
        simp only [Option.some.injEq] at e1
        rw [strOf_get B hB, div_pow_cast, and_1_u8 _ (by
          have h8 : B.getD (k / 8) 0 < 256 := by
            rw [List.getD_eq_getElem?_getD, List.getElem?_eq_getElem (by omega)]
            exact hB _ (List.getElem_mem _)
          have := Nat.div_le_self (B.getD (k / 8) 0) (2 ^ (7 - k % 8))
          omega), e1]
        have : L[k] ≤ 1 := by rw [← e1]; omega
        omega
      have HV := Lib.hid hval
      clear hval
      go_wp2
      rw [HV.out]
      go_roundw
      case rel =>
        refine ⟨k + 1, by omega, by go_num, ?_, HO2.out.setCell ⟨w1.heap.size, k, none⟩ (.inr HO.out.size) _⟩
        have := HS.out.set k (byteV (48 + L[k]))
        rw [fill_step L (fun b => byteV (48 + b)) (.int .u8 0) k hlt] at this
        exact this
      case measure => simp [intOf]; omega
    · obtain rfl : k = L.length := by omega
      have e : ((L.take L.length).map fun b => byteV (48 + b)) ++ List.replicate (L.length - L.length) (Value.int .u8 0) = (L.map fun b => 48 + b).map byteV := by
        rw [Nat.sub_self, List.take_length, List.replicate_zero, List.append_nil, List.map_map]; rfl
      rw [e] at hsl
      have hll : L.length = (L.map fun b => 48 + b).length := by simp
      have hle := HP.out
      have hL1 : ∀ x ∈ (L.map fun b => 48 + b), x < 256 := by
        intro x hx
        simp only [List.mem_map] at hx
        obtain ⟨y, hy, rfl⟩ := hx
        obtain ⟨t, ht⟩ := HP.out
        have : y ∈ bits8 B := by rw [← ht]; exact List.mem_append_left _ hy
        unfold bits8 at this
        simp only [List.mem_flatMap] at this
        obtain ⟨z, _, hz⟩ := this
        have := bitsOf_le 8 z y hz
        omega
      have hconv : (convert 57 9 (.slice (some ⟨w1.heap.size, 0, none⟩) L.length L.length)).run Try.prog wr = .ok (.string (txt L)) wr := by
        have hsl' : Sl wr 5 1 (.slice (some ⟨w1.heap.size, 0, none⟩) L.length L.length) (L.map fun b => 48 + b).length ((L.map fun b => 48 + b).map byteV) := by rw [← hll]; exact hsl
        exact run_str_of hsl' hL1
      have HS := Lib.hid hsl
      have HO2 := Lib.hid ho
      clear hsl ho hL1 e hll hle
      go_wp2
      go_returns
      exact ⟨rfl, HO2.out⟩

end Go.Proofs.Ytbpdhfenomebpaa
