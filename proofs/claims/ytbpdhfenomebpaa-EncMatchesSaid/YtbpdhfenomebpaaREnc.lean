/-
  The reference's encoder: double, add.
-/
import Derived.Test.YtbpdhfenomebpaaEnc2
import Derived.Test.YtbpdhfenomebpaaRTab
namespace Sp

/-- The bits of a sum, bit by bit from the lowest on. -/
theorem bitsOf_step (n k c m : Nat) (h : k < n) : bitsOf (n - k) (c / 2 ^ k) ++ bitsOf k m = bitsOf (n - (k + 1)) (c / 2 ^ (k + 1)) ++ ((c / 2 ^ k % 2) :: bitsOf k m) := by
  obtain ⟨j, hj⟩ : ∃ j, n - k = j + 1 := ⟨n - k - 1, by omega⟩
  rw [hj, show n - (k + 1) = j by omega]
  simp only [bitsOf]
  rw [Nat.div_div_eq_div_mul, ← Nat.pow_succ, List.append_assoc]
  rfl

/-- What is carried at place k. -/
def carry (c n k : Nat) : Nat := (c + n) / 2 ^ k - c / 2 ^ k

theorem div_le_div' (c n k : Nat) : c / 2 ^ k ≤ (c + n) / 2 ^ k := Nat.div_le_div_right (by omega)

theorem carry_step (c n k : Nat) : carry c n (k + 1) = (carry c n k + c / 2 ^ k % 2) / 2 ∧ (carry c n k + c / 2 ^ k % 2) % 2 = (c + n) / 2 ^ k % 2 := by
  have h1 := div_le_div' c n k
  unfold carry
  rw [Nat.pow_succ, ← Nat.div_div_eq_div_mul, ← Nat.div_div_eq_div_mul]
  generalize (c + n) / 2 ^ k = a at *
  generalize c / 2 ^ k = b at *
  omega

theorem carry_le (c n k : Nat) : carry c n k ≤ n := by
  induction k with
  | zero => unfold carry; simp
  | succ k ih =>
    have h := (carry_step c n k).1
    rw [h]
    rcases Nat.eq_zero_or_pos n with h0 | h0
    · have hz : carry c n k = 0 := by omega
      rw [hz, h0]
      omega
    · omega

theorem bits_sum (n k c m : Nat) : bitsOf (n - (k + 1)) (c / 2 ^ (k + 1)) ++ (((c + m) / 2 ^ k % 2) :: bitsOf k (c + m)) = bitsOf (n - (k + 1)) (c / 2 ^ (k + 1)) ++ bitsOf (k + 1) (c + m) := by
  congr 1
  have := bitsOf_add 1 k (c + m)
  rw [Nat.add_comm 1 k] at this
  rw [this]
  rfl

theorem bits_done (n k c m : Nat) (h : k ≤ n) (hz : carry c m k = 0) : bitsOf (n - k) (c / 2 ^ k) ++ bitsOf k (c + m) = bitsOf n (c + m) := by
  have h1 := div_le_div' c m k
  unfold carry at hz
  rw [show c / 2 ^ k = (c + m) / 2 ^ k by omega]
  rw [← bitsOf_add, show n - k + k = n by omega]

theorem carry_end (n c m : Nat) (h : c + m < 2 ^ n) : carry c m n = 0 := by
  unfold carry
  rw [Nat.div_eq_of_lt h, Nat.zero_sub]

end Sp
namespace Go.Proofs.Ytbpdhfenomebpaa
open Go.RowKit Sp

/-- Block b is the reference's encoder at e, over the text in block bs and the table in block bt; g: the block of its code. -/
structure REnc (w : World) (b bs bt g : Nat) (e : E) : Prop where
  here : ∃ n cap, n = 9 + e.d ∧ Blk w b #[.pointer (some ⟨bs, 0, none⟩), .pointer (some ⟨bt, 0, none⟩), .slice (some ⟨g, 0, none⟩) n cap, .int .i64 e.r, .bool false] 59 ∧
    Sl w 5 1 (.slice (some ⟨g, 0, none⟩) n cap) n ((bitsOf n e.c).map byteV)

theorem REnc.lt {w : World} {b bs bt g : Nat} {e : E} (h : REnc w b bs bt g e) : b < w.heap.size := by
  obtain ⟨n, cap, _, hblk, _⟩ := h.here
  exact hblk.lt
theorem REnc.glt {w : World} {b bs bt g : Nat} {e : E} (h : REnc w b bs bt g e) : g < w.heap.size := by
  obtain ⟨n, cap, _, _, hsl⟩ := h.here
  exact hsl.lt rfl
theorem REnc.ne {w : World} {b bs bt g : Nat} {e : E} (h : REnc w b bs bt g e) : g ≠ b := by
  obtain ⟨n, cap, _, hblk, hsl⟩ := h.here
  exact hblk.ne_row hsl (by decide) g rfl
theorem REnc.only {w w' : World} {b bs bt g : Nat} {S : List Nat} {e : E} (h : REnc w b bs bt g e) (ho : Only S w w') (hb : b ∉ S) (hg : g ∉ S) : REnc w' b bs bt g e := by
  obtain ⟨n, cap, hn, hblk, hsl⟩ := h.here
  exact ⟨⟨n, cap, hn, hblk.only ho hb, hsl.only ho (fun k hk => by simp [Value.ownBlock] at hk; rw [← hk]; exact hg)⟩⟩
theorem REnc.setR {w : World} {b bs bt g : Nat} {e : E} (h : REnc w b bs bt g e) (r : Nat) : REnc (w.setCell ⟨b, 3, none⟩ (.int .i64 r)) b bs bt g ⟨e.c, e.d, r⟩ := by
  have hne := h.ne
  obtain ⟨n, cap, hn, hblk, hsl⟩ := h.here
  exact ⟨⟨n, cap, hn, hblk.set 3 _, hsl.set_other ⟨b, 3, none⟩ (by simp [Value.ownBlock]; exact hne) _⟩⟩
theorem REnc.cells {w : World} {b bs bt g : Nat} {e : E} (h : REnc w b bs bt g e) :
    w.cell? ⟨b, 0, none⟩ = some (.pointer (some ⟨bs, 0, none⟩)) ∧ w.cell? ⟨b, 1, none⟩ = some (.pointer (some ⟨bt, 0, none⟩)) ∧
    w.cell? ⟨b, 3, none⟩ = some (.int .i64 e.r) ∧ w.cell? ⟨b, 4, none⟩ = some (.bool false) ∧ (∀ i, w.frozen? ⟨b, i, none⟩ = false) := by
  obtain ⟨n, cap, hn, hblk, _⟩ := h.here
  exact ⟨(hblk.cell 0).trans rfl, (hblk.cell 1).trans rfl, (hblk.cell 3).trans rfl, (hblk.cell 4).trans rfl, hblk.free⟩

set_option maxRecDepth 100000 in
set_option maxHeartbeats 1600000 in
theorem double_any {w : World} {b bs bt g : Nat} {e : E} (h : REnc w b bs bt g e) (hd : e.d ≤ 1000000000000) :
    Calls Try.prog 133 #[.pointer (some ⟨b, 0, none⟩)] w fun en w' => en = .returned (.tuple #[]) ∧
      ∃ g', REnc w' b bs bt g' ⟨2 * e.c, e.d + 1, e.r⟩ ∧ (g' = g ∨ w.heap.size ≤ g') ∧ Only [b, g] w w' := by
  obtain ⟨i0, hi, hz0, hz1, hz2⟩ := info_parts info_u8
  have hne := h.ne
  obtain ⟨n, cap, hn, hblk, hsl⟩ := h.here
  have hb := hblk.lt
  have hbk : ∀ j, b < w.heap.size + j := fun j => by omega
  have c2 : w.cell? ⟨b, 2, none⟩ = some (.slice (some ⟨g, 0, none⟩) n cap) := (hblk.cell 2).trans rfl
  have f2 := hblk.free 2
  have q4 : n + 1 ≤ maxLen := by unfold maxLen; omega
  have q5 : (n + 1) * 1 ≤ 140737488355328 := by omega
  have HB := Lib.hid hblk
  have HS := Lib.hid hsl
  have HN := Lib.hid hne
  have HN2 := Lib.hid hn
  clear hblk hsl h hne hn
  go_enter Try.func133, Try.ntmps133
  go_wp2_with (
    at_builtin
    refine wpList_append_lies _ rfl (.tmp 6) (.tmp 7) 57 rfl 0 5 i0 (.int .u8 0) 1 1 Try.underlying57 hi hz0 hz1 hz2 rfl (by decide) (.slice (some ⟨g, 0, none⟩) n cap) n ((bitsOf n e.c).map byteV) rfl ?_ ⟨_, 0, none⟩ 1 1 [.int .u8 0] rfl rfl ?_ ?_ (by decide) ?_ ?_ (Nat.zero_le _) _ rfl ?_
    · exact HS.out.alloc _
    · exact World.news_of_block (cs := #[_]) (Blk.new' _ _ (by simp))
    · simp [Value.oneCell']
    · exact q4
    · exact q5
    intro ng ncap w1 hown hgrow hat hlt
    have h1 := (Only.refl [] w).alloc (.cells #[.int .u8 0] 5)
    have h2 := h1.appended hgrow
    have h3 := HB.out.only h2 (fun x => HN.out (by simp [Value.ownBlock] at x; exact x.symm))
    have f2' := h3.free 2
    have c2' : w1.cell? ⟨b, 2, none⟩ = some (.slice (some ⟨g, 0, none⟩) n cap) := (h3.cell 2).trans rfl
    have hgb : ng ≠ b := h3.ne_row hown (by decide) ng rfl
    have hg : ng = g ∨ w.heap.size ≤ ng := by
      rcases hat with x | x
      · exact .inl (by simpa [Value.ownBlock] using x.symm)
      · exact .inr (by rw [x]; simp)
    have hb1 := h3.lt
    have hbk1 : ∀ j, b < w1.heap.size + j := fun j => by omega
    have H1 := Lib.hid hown
    have H2 := Lib.hid h2
    have H3 := Lib.hid h3
    clear hown hgrow hat h1 h2 h3)
  all_goals
    go_returns
    refine ⟨rfl, ng, ⟨⟨n + 1, ncap, by rw [HN2.out]; simp only []; omega, H3.out.set 2 _, ?_⟩⟩, hg, ?_⟩
    · have e1 : bitsOf (n + 1) (2 * e.c) = bitsOf n e.c ++ [0] := by
        simp only [bitsOf]
        rw [show 2 * e.c / 2 = e.c by omega, show 2 * e.c % 2 = 0 by omega]
      simp only []
      rw [e1, List.map_append]
      exact Sl.set_other H1.out ⟨b, 2, none⟩ (by simpa [Value.ownBlock] using hgb) _
    · exact (Only.mono H2.out (by simp [Value.ownBlock])).setCell ⟨b, 2, none⟩ (by simp) _

set_option maxRecDepth 100000 in
set_option maxHeartbeats 1600000 in
theorem radd_any {w : World} {b bs bt g : Nat} {e : E} (h : REnc w b bs bt g e) (hd : e.d ≤ 1000000000000) (m : Nat) (hm : m ≤ 1000) (hs : e.c + m < 2 ^ (9 + e.d)) :
    Calls Try.prog 96 #[.pointer (some ⟨b, 0, none⟩), .int .i64 m] w fun en w' => en = .returned (.tuple #[]) ∧
      REnc w' b bs bt g ⟨e.c + m, e.d, e.r⟩ ∧ Only [g] w w' := by
  have hne := h.ne
  obtain ⟨n, cap, hn, hblk, hsl⟩ := h.here
  obtain ⟨c, d, r⟩ := e
  simp only [] at *
  rw [← hn] at hs
  have hb := hblk.lt
  have c2 : w.cell? ⟨b, 2, none⟩ = some (.slice (some ⟨g, 0, none⟩) n cap) := (hblk.cell 2).trans rfl
  have hn0 : 9 ≤ n := by omega
  have hn1 : n ≤ 1000000001000 := by omega
  have HB := Lib.hid hblk
  have HS := Lib.hid hsl
  have HN := Lib.hid hne
  have HN2 := Lib.hid hn
  have HSU := Lib.hid hs
  clear hblk hsl h hne hn hs
  go_enter Try.func96, Try.ntmps96
  go_wp2_with fail
  go_loopw [1, 4] (fun mv i wr => ∃ (k : Nat), k ≤ n ∧ i = .int .i64 ((n : Int) - 1 - k) ∧ mv = .int .i64 (carry c m k) ∧ Only [g] w wr ∧
    Blk wr b #[.pointer (some ⟨bs, 0, none⟩), .pointer (some ⟨bt, 0, none⟩), .slice (some ⟨g, 0, none⟩) n cap, .int .i64 r, .bool false] 59 ∧
    Sl wr 5 1 (.slice (some ⟨g, 0, none⟩) n cap) n ((bitsOf (n - k) (c / 2 ^ k) ++ bitsOf k (c + m)).map byteV)) (fun _ i _ => (intOf i + 1).toNat)
  case atStart =>
    refine ⟨0, Nat.zero_le _, by go_num, by simp [carry], Only.refl _ _, HB.out, ?_⟩
    have := HS.out
    simpa [bitsOf] using this
  case round =>
    obtain ⟨k, hk, rfl, rfl, ho, hB, hS⟩ := hrel
    have b2 : wr.cell? ⟨b, 2, none⟩ = some (.slice (some ⟨g, 0, none⟩) n cap) := (hB.cell 2).trans rfl
    have hcl := carry_le c m k
    have D1 := Lib.hid ho
    have D2 := Lib.hid hB
    have D3 := Lib.hid hS
    by_cases hz : carry c m k = 0
    · have hfin := bits_done n k c m hk hz
      rw [hfin] at hS
      rw [hz]
      have D4 := Lib.hid hS
      clear ho hB hS hz hfin hcl
      go_wp2_with fail
      go_returns
      exact ⟨rfl, ⟨⟨n, cap, HN2.out, D2.out, D4.out⟩⟩, D1.out⟩
    · have hkn : k < n := by
        rcases Nat.lt_or_ge k n with q | q
        · exact q
        · exfalso; obtain rfl : k = n := by omega
          exact hz (carry_end _ _ _ HSU.out)
      have hstep := carry_step c m k
      rw [bitsOf_step n k c (c + m) hkn] at hS
      obtain ⟨x, hx⟩ : ∃ x, x = c / 2 ^ k % 2 := ⟨_, rfl⟩
      rw [← hx] at hS hstep
      have hx1 : x ≤ 1 := by omega
      have hcap : n ≤ cap := by obtain ⟨_, _, q, _⟩ := hS.row; exact q
      obtain ⟨j, hj⟩ : ∃ j, j = n - (k + 1) := ⟨_, rfl⟩
      have hji : (n : Int) - 1 - k = (j : Int) := by omega
      have cg : wr.cell? ⟨g, j, none⟩ = some (.int .u8 x) := by
        rw [hS.cells j (by omega), List.getElem?_map, List.getElem?_append_right (by simp; omega), bitsOf_length, ← hj, Nat.sub_self]
        rfl
      have fg := hS.free j
      have hglt : g < wr.heap.size := hS.lt rfl
      have hjn : j < n := by omega
      have hcp : 0 < carry c m k := by omega
      rw [hji]
      generalize hcy : carry c m k = cy at *
      generalize hcy1 : carry c m (k + 1) = cy1 at *
      have hset := hS.set j (.int .u8 (((cy + x) % 2 : Nat)))
      rw [← hj] at hset
      have E1 := Lib.hid hset
      have E2 := Lib.hid hstep
      have E3 := Lib.hid hcy1
      have E4 := Lib.hid hj
      clear ho hB hS hset hstep hx hcy1 hcy hji hj
      go_wp2_with fail
      go_roundw
      case rel =>
        have F2 := E2.out
        have F4 := E4.out
        have e1 : (((cy + x) % 2 : Nat) : Int) = ((cy : Int) + x) % 2 := by omega
        have e2 : (((cy + x) / 2 : Nat) : Int) = ((cy : Int) + x) / 2 := by omega
        refine ⟨k + 1, by omega, by congr 1; omega, by rw [E3.out, F2.1, e2], ?_, ?_, ?_⟩
        · exact D1.out.setCell _ (by simp) _
        · exact D2.out.other _ (by simp; exact fun q => HN.out q.symm) _
        · have := E1.out
          rw [e1] at this
          have e3 : ((bitsOf j (c / 2 ^ (k + 1)) ++ x :: bitsOf k (c + m)).map byteV).set j (.int .u8 (((cy : Int) + x) % 2)) = (bitsOf (n - (k + 1)) (c / 2 ^ (k + 1)) ++ bitsOf (k + 1) (c + m)).map byteV := by
            rw [← bits_sum, ← F2.2, ← F4, List.map_append, List.map_cons, List.map_append, List.map_cons, List.set_append_right _ _ (by simp), List.length_map, bitsOf_length, Nat.sub_self, List.set_cons_zero, ← e1]
            rfl
          rw [e3] at this
          exact this
      case measure => simp [intOf] <;> omega

end Go.Proofs.Ytbpdhfenomebpaa
