/-
  The writer of bits: what Put does.
-/
import Derived.Test.YtbpdhfenomebpaaRTab
import Derived.Test.YtbpdhfenomebpaaBits
namespace Go.Proofs.Ytbpdhfenomebpaa
open Go.RowKit Sp

/-- Block b is a writer with the bits L; F: the block of its whole bytes, if there is one. -/
structure Wr (w : World) (b : Nat) (F : List Nat) (L : List Nat) : Prop where
  here : ∃ (v : Value) (B : List Nat) (part n : Nat), Blk w b #[v, .int .u8 part, .int .i64 n] 150 ∧ Sl w 5 1 v B.length (B.map byteV) ∧ F = v.ownBlock.toList ∧
    n < 8 ∧ part < 2 ^ n ∧ (∀ x ∈ B, x < 256) ∧ L = bits8 B ++ bitsOf n part

/-- The row of a slice, laid open. -/
theorem Sl.row {w : World} {e : TypeId} {size g cap n : Nat} {xs : List Value} (h : Sl w e size (.slice (some ⟨g, 0, none⟩) n cap) n xs) :
    ∃ cur : Array Value, w.heap[g]? = some (.cells cur e (0, 0)) ∧ n ≤ cap ∧ cap ≤ maxLen ∧ cur.size = cap * size ∧ cur.toList.take (n * size) = xs := by
  rcases h.2 with ⟨h', _⟩ | ⟨g', cap', cur, h', hb, hg, hnc, hcm, hcs, htake⟩
  · simp at h'
  · simp only [Value.slice.injEq, Option.some.injEq, Addr.mk.injEq, and_true, true_and] at h'
    obtain ⟨rfl, rfl⟩ := h'
    exact ⟨cur, hg, hnc, hcm, hcs, htake⟩

theorem Sl.form {w : World} {e : TypeId} {size n : Nat} {v : Value} {xs : List Value} (h : Sl w e size v n xs) : ∃ a cap, v = .slice a n cap := by
  rcases h.2 with ⟨rfl, rfl⟩ | ⟨g', cap', cur, rfl, _⟩
  · exact ⟨none, 0, rfl⟩
  · exact ⟨_, _, rfl⟩

theorem Sl.copied {w : World} {e : TypeId} {g cap n : Nat} {xs : List Value} (h : Sl w e 1 (.slice (some ⟨g, 0, none⟩) n cap) n xs) (cur : Array Value) (hg : w.heap[g]? = some (.cells cur e (0, 0)))
    (off : Nat) (cs : List Value) (hoff : off + cs.length = n) :
    Sl (w.setRow g (cur.toList.take off ++ cs ++ cur.toList.drop (off + cs.length)).toArray) e 1 (.slice (some ⟨g, 0, none⟩) n cap) n (xs.take off ++ cs) := by
  obtain ⟨cur', hg', hnc, hcm, hcs, htake⟩ := h.row
  rw [hg] at hg'
  simp only [Option.some.injEq, Obj.cells.injEq, and_true] at hg'
  subst hg'
  have hx := h.len
  obtain ⟨row, hrow⟩ : ∃ row, row = (cur.toList.take off ++ cs ++ cur.toList.drop (off + cs.length)).toArray := ⟨_, rfl⟩
  rw [← hrow]
  refine ⟨by simp; omega, .inr ⟨g, cap, row, rfl, Nat.zero_le _, setRow_heap w g cur _ e _ hg, hnc, hcm, ?_, ?_⟩⟩
  · rw [hrow]; simp; omega
  · rw [hrow]
    simp only [Nat.mul_one] at htake ⊢
    have e1 : cur.toList.take off = xs.take off := by rw [← htake, List.take_take]; congr 1; omega
    have e2 : (xs.take off ++ cs).length = n := by simp; omega
    rw [e1]
    show (xs.take off ++ cs ++ _).take n = _
    rw [List.take_append_of_le_length (by omega)]
    exact List.take_of_length_le (by omega)

theorem setRow_only {S : List Nat} {a w : World} (h : Only S a w) (g : Nat) (hg : g ∈ S ∨ a.heap.size ≤ g) (cs : Array Value) : Only S a (w.setRow g cs) :=
  h.trans (T := [g]) ⟨rfl, rfl, rfl, by simp [World.setRow], fun k _ hn => setRow_other w g k cs (by simpa using hn)⟩ (by simpa using hg)

theorem info_u8 : (Try.prog.info? 5).map (fun i => (i.zero, i.size, i.bytes)) = some (some (.int .u8 0), 1, 1) := by kernel_rfl
theorem arrayLen9 : Try.prog.arrayLen 160 = 9 := by kernel_rfl
theorem run_slice9 (b : Addr) (k : Nat) (hk : k ≤ 9) (W : World) :
    (Instr.sliceAt 160 (.pointer (some b)) none (some (.int .i64 k)) none).run Try.prog W = .ok (.slice (some b) k 9) W := by
  rw [run_sliceAt_array_h (P := Try.prog) W 160 b (by kernel_rfl) .i64 k (by omega) (by rw [arrayLen9]; omega), arrayLen9]
  rw [show (sizeOf (Try.prog.elem 160)).run Try.prog W = .ok 1 W by kernel_rfl]
  simp [slicedAt, Addr.add]
theorem info_u8s : (Try.prog.info? 5).map (·.size) = some 1 := by kernel_rfl

/-- What the loop of Put keeps. -/
structure PutRel (w wr : World) (b : Nat) (v0 : Value) (B L : List Nat) (n v k i : Nat) (p c : Nat) (Fb : List Nat) (A : Array Value) : Prop where
  le : i ≤ n
  c8 : c < 8
  pc : p < 2 ^ c
  Fk : Fb.length = k
  F256 : ∀ x ∈ Fb, x < 256
  bits : L ++ bitsOf (n - i) (v / 2 ^ i) = bits8 (B ++ Fb) ++ bitsOf c p
  len : 8 * k + c + i ≤ 7 + n
  here : Blk wr b #[v0, .int .u8 p, .int .i64 c] 150
  arr : Blk wr w.heap.size A 160
  arrs : A.size = 9
  arrk : ∀ j, j < k → A[j]? = (Fb.map byteV)[j]?
  only : Only [b] w wr

theorem pow_lt_256 {c p : Nat} (h : p < 2 ^ c) (hc : c < 8) : p < 128 := by
  have : 2 ^ c ≤ 2 ^ 7 := Nat.pow_le_pow_right (by decide) (by omega)
  omega

/-- A writer's own block is not that of its bytes. -/
theorem PutRel.apart {w : World} {b : Nat} {vs : Array Value} {v : Value} {n : Nat} {xs : List Value} (hb : Blk w b vs 150) (h : Sl w 5 1 v n xs) : ∀ k, v.ownBlock = some k → k ∉ [b] := by
  intro k hk e
  simp only [List.mem_singleton] at e
  subst e
  rcases h.2 with ⟨rfl, _⟩ | ⟨g', cap', cur, rfl, _, hg, _⟩
  · cases hk
  · simp only [Value.ownBlock, Option.some.injEq] at hk
    subst hk
    rw [show w.heap[g']? = _ from hb] at hg
    simp at hg

/-- A round that does not complete a byte. -/
theorem PutRel.push {w wr w' : World} {b : Nat} {v0 : Value} {B L : List Nat} {n v k j p c : Nat} {Fb : List Nat} {A : Array Value}
    (h : PutRel w wr b v0 B L n v k (j + 1) p c Fb A) (hc : c + 1 < 8)
    (hB : Blk w' b #[v0, .int .u8 ((2 * p + v / 2 ^ j % 2 : Nat)), .int .i64 ((c + 1 : Nat))] 150) (hA : Blk w' w.heap.size A 160) (ho : Only [b] w w') :
    PutRel w w' b v0 B L n v k j (2 * p + v / 2 ^ j % 2) (c + 1) Fb A where
  le := by have := h.le; omega
  c8 := hc
  pc := by have := h.pc; rw [Nat.pow_succ]; omega
  Fk := h.Fk
  F256 := h.F256
  bits := by
    have hl := h.le
    rw [show n - j = n - (j + 1) + 1 by omega, bitsOf_next, ← List.append_assoc, h.bits, bitsOf_push _ _ _ (by omega), List.append_assoc]
  len := by have := h.len; omega
  here := hB
  arr := hA
  arrs := h.arrs
  arrk := h.arrk
  only := ho

/-- A round that completes a byte. -/
theorem PutRel.full {w wr w' : World} {b : Nat} {v0 : Value} {B L : List Nat} {n v k j p c : Nat} {Fb : List Nat} {A : Array Value}
    (h : PutRel w wr b v0 B L n v k (j + 1) p c Fb A) (hc : c + 1 = 8) (hk : k < 9)
    (hB : Blk w' b #[v0, .int .u8 0, .int .i64 0] 150) (hA : Blk w' w.heap.size (A.setIfInBounds k (byteV (2 * p + v / 2 ^ j % 2))) 160) (ho : Only [b] w w') :
    PutRel w w' b v0 B L n v (k + 1) j 0 0 (Fb ++ [2 * p + v / 2 ^ j % 2]) (A.setIfInBounds k (byteV (2 * p + v / 2 ^ j % 2))) where
  le := by have := h.le; omega
  c8 := by decide
  pc := by decide
  Fk := by simp [h.Fk]
  F256 := by
    intro x hx
    have := pow_lt_256 h.pc h.c8
    rcases List.mem_append.1 hx with hx | hx
    · exact h.F256 x hx
    · simp only [List.mem_singleton] at hx; omega
  bits := by
    have hl := h.le
    rw [show n - j = n - (j + 1) + 1 by omega, bitsOf_next, ← List.append_assoc, h.bits, List.append_assoc, ← bitsOf_push _ _ _ (by omega), hc, ← List.append_assoc, bits8_append (B ++ Fb), bits8_one]
    simp [bitsOf]
  len := by have := h.len; omega
  here := hB
  arr := hA
  arrs := by simp [h.arrs]
  arrk := by
    intro q hq
    have hs := h.arrs
    have hF := h.Fk
    rw [Array.getElem?_setIfInBounds, List.map_append]
    by_cases e : k = q
    · subst e
      rw [if_pos rfl, if_pos (by omega), List.getElem?_append_right (by simp [hF])]
      simp [hF]
    · rw [if_neg e, List.getElem?_append_left (by simp; omega)]
      exact h.arrk q (by omega)
  only := ho

set_option maxRecDepth 100000 in
set_option maxHeartbeats 3200000 in
theorem put_any {w : World} {b : Nat} {F L : List Nat} (h : Wr w b F L) (n v : Nat) (hn : n ≤ 32) (hv : v < 2 ^ n) (hL : L.length ≤ 1099511627776) :
    Calls Try.prog 36 #[.pointer (some ⟨b, 0, none⟩), .int .i64 n, .int .u64 v] w fun e w' => e = .returned (.int .i64 0) ∧
      ∃ F', Wr w' b F' (L ++ bitsOf n v) ∧ (∀ x ∈ F', x ∈ F ∨ w.heap.size ≤ x) ∧ Only (b :: F) w w' := by
  obtain ⟨v0, B, part, cnt, hblk, hsl, hF, hc, hp, hB, hLB⟩ := h.here
  obtain ⟨a0, cap0, rfl⟩ := hsl.form
  have hb := hblk.lt
  have hLlen : 8 * B.length ≤ L.length := by rw [hLB, List.length_append, bits8_length]; omega
  have hv64 : v ≤ 18446744073709551615 := by
    have : 2 ^ n ≤ 2 ^ 32 := Nat.pow_le_pow_right (by decide) hn
    omega
  have t1 : ((v : Int) / 2 ^ n != 0) = false := by
    rw [div_pow_cast, Nat.div_eq_of_lt hv]; rfl
  have c0 : w.cell? ⟨b, 0, none⟩ = some (.slice a0 B.length cap0) := (hblk.cell 0).trans rfl
  have HBl := Lib.hid hblk
  have HF := Lib.hid hF
  have HLB := Lib.hid hLB
  have HS := Lib.hid hsl
  have HB := Lib.hid hB
  clear hblk hF hLB hsl hB h
  obtain ⟨i0, hi, hz0, hz1, hz2⟩ := info_parts info_u8
  go_enter Try.func36, Try.ntmps36
  go_wp2_with fail
  go_loopw [8, 9] (fun k i wr => ∃ (k' i' p' c' : Nat) (Fb : List Nat) (A : Array Value), k = .int .i64 k' ∧ i = .int .i64 ((i' : Int) - 1) ∧ PutRel w wr b (.slice a0 B.length cap0) B L n v k' i' p' c' Fb A) (fun _ i _ => (intOf i + 1).toNat)
  case atStart =>
    refine ⟨0, n, part, cnt, [], _, rfl, rfl, ⟨Nat.le_refl _, hc, hp, rfl, by simp, ?_, by omega, HBl.out.alloc _, Blk.new _ _ _, rfl, by simp, (Only.refl _ _).alloc _⟩⟩
    rw [Nat.sub_self, HLB.out]; simp [bitsOf]
  case round =>
    obtain ⟨k', i', p', c', Fb, A, rfl, rfl, hR⟩ := hrel
    have c0 : wr.cell? ⟨b, 0, none⟩ = some (.slice a0 B.length cap0) := (hR.here.cell 0).trans rfl
    have c1 : wr.cell? ⟨b, 1, none⟩ = some (.int .u8 p') := (hR.here.cell 1).trans rfl
    have c2 : wr.cell? ⟨b, 2, none⟩ = some (.int .i64 c') := (hR.here.cell 2).trans rfl
    have f0 := hR.here.free 0
    have f1 := hR.here.free 1
    have f2 := hR.here.free 2
    have hlen := hR.len
    have hp7 := pow_lt_256 hR.pc hR.c8
    have hc8 := hR.c8
    have hle := hR.le
    by_cases h0 : 1 ≤ i'
    · obtain ⟨j, rfl⟩ : ∃ j, i' = j + 1 := ⟨i' - 1, by omega⟩
      have e : ((j + 1 : Nat) : Int) - 1 = j := by omega
      rw [e]
      clear e
      obtain ⟨z0, hz0⟩ : ∃ z, wr.cell? ⟨w.heap.size, k', none⟩ = some z := ⟨A[k']'(by have := hR.arrs; omega), (hR.arr.cell k').trans (Array.getElem?_eq_getElem _)⟩
      have g1 := hR.arr.free k'
      have hq := push_bit p' v j hp7 hv64
      have hne : b ≠ w.heap.size := Nat.ne_of_lt hb
      have HR := Lib.hid hR
      clear hR
      by_cases hc7 : c' + 1 = 8
      · have t2 : ((c' : Int) + 1 == 8) = true := by simp; omega
        have Hc := Lib.hid hc7
        clear hc7
        go_wp2
        go_region
        all_goals
          go_wp2
          go_roundw
          case rel =>
            refine ⟨k' + 1, j, 0, 0, _, _, by go_num, rfl, HR.out.full Hc.out (by omega) ?_ ?_ ?_⟩
            · exact (((((HR.out.here.set 1 _).set 2 _).other ⟨w.heap.size, k', none⟩ hne _).set 1 _).set 2 _).drew
            · exact (((((HR.out.arr.other ⟨b, 1, none⟩ hne.symm _).other ⟨b, 2, none⟩ hne.symm _).set k' _).other ⟨b, 1, none⟩ hne.symm _).other ⟨b, 2, none⟩ hne.symm _).drew
            · exact (((((HR.out.only.setCell ⟨b, 1, none⟩ (by simp) _).setCell ⟨b, 2, none⟩ (by simp) _).setCell ⟨w.heap.size, k', none⟩ (by simp) _).setCell ⟨b, 1, none⟩ (by simp) _).setCell ⟨b, 2, none⟩ (by simp) _).drew
          case measure => simp [intOf]
      · have t2 : ((c' : Int) + 1 == 8) = false := by simp; omega
        go_wp2
        go_region
        all_goals
          go_wp2
          go_roundw
          case rel =>
            refine ⟨k', j, 2 * p' + v / 2 ^ j % 2, c' + 1, Fb, A, rfl, rfl, HR.out.push (by omega) ?_ ?_ ?_⟩
            · exact ((HR.out.here.set 1 _).set 2 _).drew
            · exact ((HR.out.arr.other ⟨b, 1, none⟩ hne.symm _).other ⟨b, 2, none⟩ hne.symm _).drew
            · exact ((HR.out.only.setCell ⟨b, 1, none⟩ (by simp) _).setCell ⟨b, 2, none⟩ (by simp) _).drew
          case measure => simp [intOf]
    · obtain rfl : i' = 0 := by omega
      have e : ((0 : Nat) : Int) - 1 = -1 := rfl
      rw [e]
      clear e
      have HR := Lib.hid hR
      clear hR
      by_cases hk : k' = 0
      · subst hk
        go_wp2
        go_returns
        have hbits := HR.out.bits
        obtain rfl : Fb = [] := List.eq_nil_of_length_eq_zero HR.out.Fk
        rw [Nat.sub_zero, Nat.pow_zero, Nat.div_one, List.append_nil] at hbits
        exact ⟨rfl, F, ⟨⟨_, B, p', c', HR.out.here, HS.out.only HR.out.only (PutRel.apart HBl.out HS.out), HF.out, hc8, HR.out.pc, HB.out, hbits⟩⟩, fun x hx => .inl hx, HR.out.only.mono (by simp)⟩
      · have t3 : (0 : Int) < (k' : Int) := by omega
        have q1 : 0 < k' := by omega
        have q2 : B.length + k' ≤ 140737488355328 := by omega
        go_wp2_with (
          at_builtin
          (refine wpList_append_zeros _ rfl (.tmp 84) (.tmp 85) 57 3 rfl 5 i0 (.int .u8 0) Try.underlying57 Try.underlying3 hi hz0 hz1 hz2 rfl rfl (.slice a0 B.length cap0) B.length (B.map byteV) rfl ?_ k' rfl q1 q2 ?_)
          · exact HS.out.only HR.out.only (PutRel.apart HBl.out HS.out)
          intro g cap w1 hown hgrow hat hlt
          have hS := HS.out.only HR.out.only (PutRel.apart HBl.out HS.out)
          have h2 := (Only.refl [] wr).appended hgrow
          have h3 := HR.out.here.only h2 (fun e => PutRel.apart HR.out.here hS b (by simpa using e) (by simp))
          have h4 := HR.out.arr.only h2 (fun e => by have := HS.out.lt (k := w.heap.size) (by simpa using e); omega)
          have c3 : w1.cell? ⟨b, 0, none⟩ = some (.slice a0 B.length cap0) := (h3.cell 0).trans rfl
          have f3 := h3.free 0
          have hne : g ≠ b := fun e => PutRel.apart h3 hown g rfl (by simp [e])
          have H1 := Lib.hid hown
          have H2 := Lib.hid h2
          have H3 := Lib.hid h3
          have H5 := Lib.hid h4
          have H4 := Lib.hid hat
          clear hown hgrow hat h2 h3 h4 hS)
        have S2 := Sl.set_other H1.out ⟨b, 0, none⟩ (by simpa [Value.ownBlock] using hne) (.slice (some ⟨g, 0, none⟩) (B.length + k') cap)
        obtain ⟨cur, hcur, q3, q4, q5, q6⟩ := S2.row
        unfold maxLen at q4
        have HC := Lib.hid hcur
        have HQ := Lib.hid q5
        have q7 : cap ≠ B.length := by omega
        have q9 : (B.length : Int) ≤ (B.length : Int) + (k' : Int) := by omega
        have q10 := fun W => run_slice9 ⟨w.heap.size, 0, none⟩ k' (by omega) W
        have q8 : B.length < cap := by omega
        have HS2 := Lib.hid S2
        clear hcur q5 q6 S2
        have HA := Lib.hid ((H5.out.other ⟨b, 0, none⟩ (by simp; omega) (.slice (some ⟨g, 0, none⟩) (B.length + k') cap)))
        go_region_law (
          refine step_copy_row rfl (.tmp 94) (.tmp 96) 57 57 rfl 5 Try.underlying57 info_u8s _ _ _ _ _ _ _ rfl rfl cur 5 ?_ (Fb.map byteV) ?_ ?_ ?_ ?_ ?_
          · exact HC.out
          · have := HR.out.Fk; simp; omega
          · intro j u hu
            have hj : j < k' := by have := (List.getElem?_eq_some_iff.1 hu).1; have := HR.out.Fk; simp at *; omega
            have hadd : (⟨w.heap.size, 0, none⟩ : Addr).add j = ⟨w.heap.size, j, none⟩ := by unfold Addr.add; split <;> simp_all
            rw [hadd]
            exact (HA.out.cell j).trans ((HR.out.arrk j hj).trans hu)
          · have := HR.out.Fk; have := HQ.out; simp; omega
          · intro u hu; simp only [List.mem_map] at hu; obtain ⟨x, _, rfl⟩ := hu; rfl)
        all_goals
          go_wp2
          go_returns
          have hbits := HR.out.bits
          rw [Nat.sub_zero, Nat.pow_zero, Nat.div_one] at hbits
          have hFk := HR.out.Fk
          have S3 := Sl.copied (Sl.drew HS2.out) cur HC.out B.length (Fb.map byteV) (by simp; omega)
          have e1 : (cur.toList.take B.length ++ Fb.map byteV ++ cur.toList.drop (B.length + (Fb.map byteV).length)).toArray = (List.take B.length cur.toList ++ (List.map byteV Fb ++ List.drop (B.length + Fb.length) cur.toList)).toArray := by
            rw [List.append_assoc, List.length_map]
          have e2 : (B.map byteV ++ List.replicate k' (Value.int .u8 0)).take B.length ++ Fb.map byteV = (B ++ Fb).map byteV := by
            rw [List.take_append_of_le_length (by simp), List.take_of_length_le (by simp), ← List.map_append]
          rw [e1, e2] at S3
          have S4 := setRow_only (Only.refl [g] (w1.setCell ⟨b, 0, none⟩ (.slice (some ⟨g, 0, none⟩) (B.length + k') cap)).drew) g (by simp) (List.take B.length cur.toList ++ (List.map byteV Fb ++ List.drop (B.length + Fb.length) cur.toList)).toArray
          have hgF : g ∈ b :: F ∨ w.heap.size ≤ g := by
            rcases H4.out with e | e
            · exact .inl (by rw [HF.out, e]; simp)
            · exact .inr (by rw [e]; exact HR.out.only.size)
          refine ⟨rfl, [g], ⟨⟨_, B ++ Fb, p', c', ((H3.out.set 0 _).drew).only S4 (by simp; exact hne.symm), ?_, rfl, hc8, HR.out.pc, ?_, hbits⟩⟩, ?_, ?_⟩
          · have e3 : (B ++ Fb).length = B.length + k' := by rw [List.length_append, hFk]
            rw [e3]
            exact S3
          · intro x hx
            rcases List.mem_append.1 hx with hx | hx
            · exact HB.out x hx
            · exact HR.out.F256 x hx
          · intro x hx
            simp only [List.mem_singleton] at hx
            subst hx
            rcases H4.out with e | e
            · exact .inl (by rw [HF.out, e]; simp)
            · exact .inr (by rw [e]; exact HR.out.only.size)
          · refine (((((HR.out.only.mono (T := b :: F) (by simp)).trans H2.out ?_).setCell ⟨b, 0, none⟩ (by simp) _).drew).trans S4 ?_)
            · intro x hx
              exact .inl (by rw [HF.out]; simp; exact .inr (by simpa using hx))
            · intro x hx
              simp only [List.mem_singleton] at hx
              subst hx
              exact hgF

end Go.Proofs.Ytbpdhfenomebpaa
