/-
  The encoder: the two sorts of bins.
-/
import Derived.Test.YtbpdhfenomebpaaEnc3
namespace Go.Proofs.Ytbpdhfenomebpaa
open Go.RowKit Sp

theorem share_r (p r : Nat) (w : World) (hp : p ≤ 62) :
    Calls Try.prog 43 #[.int .u8 p, .int .i64 ((r : Int) / 64 % 4)] w fun e w' => e = .returned (.tuple #[.int .i64 (share p (r / 64 % 4)), .int .i64 0]) ∧ w' = w := by
  rw [show ((r : Int) / 64 % 4) = ((r / 64 % 4 : Nat) : Int) by omega]
  exact (share_any p (r / 64 % 4) w hp (by omega)).mono fun _ _ h => ⟨h.1, h.2.symm⟩
theorem rshare_r (p r : Nat) (w : World) (hp : p ≤ 62) :
    Calls Try.prog 110 #[.int .u8 p, .int .i64 ((r : Int) / 64 % 4)] w fun e w' => e = .returned (.tuple #[.int .i64 (share p (r / 64 % 4)), .int .i64 0]) ∧ w' = w := by
  rw [show ((r : Int) / 64 % 4) = ((r / 64 % 4 : Nat) : Int) by omega]
  exact (rshare_any p (r / 64 % 4) w hp (by omega)).mono fun _ _ h => ⟨h.1, h.2.symm⟩

def binV (c : Int) (b : Nat) : Value := .agg #[.int .i64 c, .int .u8 b]

set_option maxRecDepth 100000 in
set_option maxHeartbeats 1600000 in
theorem bypass_any {w : World} {b bw bt : Nat} {H : List Nat} {e : E} (h : Enc w b bw bt H e) (hok : e.ok) (hd : e.d ≤ 1000000000000) (c : Int) (bit : Nat) (_hbit : bit ≤ 1) :
    Calls Try.prog 89 #[.pointer (some ⟨b, 0, none⟩), .agg #[.int .i64 c, .int .u8 bit]] w fun en w' => en = .returned (.tuple #[]) ∧
      ∃ H', Enc w' b bw bt H' (e.byp bit) ∧ (∀ x ∈ H', x ∈ H ∨ w.heap.size ≤ x) ∧ Only (b :: H) w w' := by
  obtain ⟨ok1, ok2, ok3⟩ := hok
  have hb := h.lt
  have hfr := h.fresh
  have h0 := h.only ((Only.refl [] w).alloc (.cells #[.int .i64 c, .int .u8 bit] 25)) (by simp) (by simp)
  have HE := Lib.hid h0
  have HFr := Lib.hid hfr
  clear h h0 hfr
  go_enter Try.func89, Try.ntmps89
  go_wp2_with fail
  refine (shift_any HE.out (by omega)).mono ?_
  rintro en w1 ⟨rfl, H1, hE1, hH1, ho1⟩
  have cb := (Blk.new w #[.int .i64 c, .int .u8 bit] 25).only ho1 (by
    intro x
    rcases List.mem_cons.1 x with x | x
    · omega
    · have := HFr.out _ x; omega)
  have c1 : w1.cell? ⟨w.heap.size, 1, none⟩ = some (.int .u8 bit) := (cb.cell 1).trans rfl
  obtain ⟨_, _, _, c4, _, _⟩ := hE1.cells
  have HE1 := Lib.hid hE1
  have HH1 := Lib.hid hH1
  have HO1 := Lib.hid ho1
  clear hE1 hH1 ho1 cb
  have hsub : ∀ x ∈ H1, x ∈ H ∨ w.heap.size ≤ x := by
    intro x hx
    rcases HH1.out x hx with h | h
    · exact .inl h
    · right; simp at h; omega
  have HS := Lib.hid hsub
  have ho : Only (b :: H) w w1 := ((Only.refl (b :: H) w).alloc _).trans HO1.out (fun x hx => .inl hx)
  have HO := Lib.hid ho
  clear hsub ho
  by_cases hb1 : bit = 1
  · have t1 : ((bit : Int) == 1) = true := by simp [hb1]
    have HB := Lib.hid hb1
    clear hb1
    go_wp2_with fail
    refine (add_any HE1.out (by simp only []; omega) e.r (by omega) (by simp only [Nat.pow_succ]; omega)).mono ?_
    rintro en w2 ⟨rfl, hE2, ho2⟩
    have HE2 := Lib.hid hE2
    have HO2 := Lib.hid ho2
    clear hE2 ho2
    go_wp2_with fail
    go_returns
    refine ⟨by simp, H1, ?_, HS.out, HO.out.trans HO2.out ?_⟩
    · have := HE2.out
      unfold E.byp
      rw [if_pos HB.out]
      exact this
    · intro x hx
      rcases List.mem_cons.1 hx with h | h
      · exact .inl (by rw [h]; simp)
      · rcases HS.out x h with h | h
        · exact .inl (List.mem_cons_of_mem _ h)
        · exact .inr h
  · have t1 : ((bit : Int) == 1) = false := by simp; omega
    have HB := Lib.hid hb1
    clear hb1
    go_wp2_with fail
    go_returns
    refine ⟨by simp, H1, ?_, HS.out, HO.out⟩
    unfold E.byp
    rw [if_neg HB.out]
    exact HE1.out

set_option maxRecDepth 100000 in
set_option maxHeartbeats 3200000 in
theorem regular_any {w : World} {b bw bt : Nat} {H : List Nat} {e : E} {T : Nat → St} (h : Enc w b bw bt H e) (hok : e.ok) (hd : e.d ≤ 1000000000000) (hT : Tab w bt T) (hbt : bt ∉ b :: H) (i bit : Nat) (hi : i < 286) (hbit : bit ≤ 1) :
    Calls Try.prog 88 #[.pointer (some ⟨b, 0, none⟩), .agg #[.int .i64 i, .int .u8 bit]] w fun en w' => en = .returned (.tuple #[]) ∧
      ∃ H', Enc w' b bw bt H' (e.reg (T i) bit) ∧ Tab w' bt (upd T i (nxt (T i) bit)) ∧ (∀ x ∈ H', x ∈ H ∨ w.heap.size ≤ x) ∧ Only (bt :: b :: H) w w' := by
  obtain ⟨ok1, ok2, ok3⟩ := hok
  have hb := h.lt
  have hbk : ∀ j, b < w.heap.size + j := fun j => by omega
  obtain ⟨_, c1, _, c4, _, hfr⟩ := h.cells
  have f4 := hfr 4
  have HE := Lib.hid h
  have HT := Lib.hid hT
  clear h hT hfr
  go_enter Try.func88, Try.ntmps88
  go_upto_region 1 with fail
  go_cut [4] (fun s4 wx => ∃ g : Nat, s4 = .pointer (some ⟨g, 0, none⟩) ∧ w.heap.size < g ∧ Blk wx g #[.int .u8 (T i).p, .int .u8 (T i).m] 63 ∧ Blk wx w.heap.size #[.int .i64 i, .int .u8 bit] 25 ∧ Only [] w wx)
  case first =>
    go_region_with (go_at_call 37; refine (state_any (T := T) ?_ i hi).mono ?_; exact HT.out.only (S := []) (by repeat (first | exact Only.refl _ _ | refine Only.alloc ?_ _ | refine Only.drew ?_)) (by simp); rintro en w' ⟨rfl, cc, rfl⟩)
    all_goals
      go_wp2_with fail
      go_meet
      case rel =>
        first
          | exact ⟨_, rfl, by omega, (Blk.new' _ _ (by simp)).drew, (((Blk.new _ _ _).alloc _).alloc _).drew, ((((Only.refl [] w).alloc _).alloc _).alloc _).drew⟩
          | exact ⟨_, rfl, by omega, ((Blk.new' _ _ (by simp)).alloc _).drew, (((Blk.new _ _ _).alloc _).alloc _).drew, ((((Only.refl [] w).alloc _).alloc _).alloc _).drew⟩
  case rest =>
    obtain ⟨g, rfl, hg, hS, hB, ho⟩ := hcut
    have hEx := HE.out.only ho (by simp) (by simp)
    obtain ⟨_, x1, _, x4, _, xfr⟩ := hEx.cells
    have s0 : wc.cell? ⟨g, 0, none⟩ = some (.int .u8 (T i).p) := (hS.cell 0).trans rfl
    have s1 : wc.cell? ⟨g, 1, none⟩ = some (.int .u8 (T i).m) := (hS.cell 1).trans rfl
    have b0 : wc.cell? ⟨w.heap.size, 0, none⟩ = some (.int .i64 i) := (hB.cell 0).trans rfl
    have b1 : wc.cell? ⟨w.heap.size, 1, none⟩ = some (.int .u8 bit) := (hB.cell 1).trans rfl
    have g4 := xfr 4
    have hw : bits BinOp.and IntKind.i64 ((e.r : Int) / 64) 3 = (e.r : Int) / 64 % 4 := and_3 _ (by omega) (by omega)
    have HX := Lib.hid hEx
    have HO := Lib.hid ho
    have HS := Lib.hid hS
    have HB := Lib.hid hB
    clear hEx ho hS hB xfr
    obtain ⟨o1, o2⟩ := HT.out.ok i
    go_wp2_with fail
    go_quiet ((go_at_call 43; exact Calls.quiet_of_same (share_r _ _ _ o1)))
    obtain ⟨g1, g2⟩ := share_fits (T i).p ok2 ok3
    obtain ⟨n, hn⟩ : ∃ n, n = share (T i).p (e.r / 64 % 4) := ⟨_, rfl⟩
    rw [← hn] at g1 g2 ⊢
    have HN := Lib.hid hn
    clear hn
    obtain ⟨e1, he1⟩ : ∃ e1 : E, e1 = (if bit = (T i).m then ⟨e.c, e.d, e.r - n⟩ else ⟨e.c + (e.r - n), e.d, n⟩) := ⟨_, rfl⟩
    have HE1 := Lib.hid he1
    clear he1
    have hs := HX.out.only ((Only.refl [] wc).drewN nq) (by simp) (by simp)
    have hs2 := Lib.hid (hs.setR (e.r - n))
    have hs3 := Lib.hid (hs.setR (e.r - n))
    have hcast : ((e.r - n : Nat) : Int) = (e.r : Int) - n := by omega
    rw [hcast] at hs2
    have HC := Lib.hid hcast
    clear hs hcast
    go_upto_if 42 with fail
    go_cut [] (fun wy => Enc wy b bw bt H e1 ∧ Blk wy w.heap.size #[.int .i64 i, .int .u8 bit] 25 ∧ Only (b :: H) w wy)
    case first =>
      by_cases hbm : bit = (T i).m
      · have t1 : ((bit : Int) != (T i).m) = false := by simp [hbm]
        have HM := Lib.hid hbm
        clear hbm
        go_wp2_with fail
        go_meet
        case rel =>
          refine ⟨?_, (HB.out.drewN nq).other ⟨b, 4, none⟩ (Nat.ne_of_gt hb) _, ((HO.out.mono (by simp)).drewN nq).setCell ⟨b, 4, none⟩ (by simp) _⟩
          rw [HE1.out, if_pos HM.out]
          exact hs2.out
      · have t1 : ((bit : Int) != (T i).m) = true := by simp; omega
        have HM := Lib.hid hbm
        clear hbm
        go_wp2_with fail
        rw [← HC.out]
        refine (add_any hs3.out (by simp only []; omega) (e.r - n) (by omega) (by simp only []; omega)).mono ?_
        rintro en w2 ⟨rfl, hE2, ho2⟩
        obtain ⟨_, _, _, y4, _, yfr⟩ := hE2.cells
        have yf := yfr 4
        have HE2 := Lib.hid hE2
        have HO2 := Lib.hid ho2
        clear hE2 ho2 yfr
        go_wp2_with fail
        go_meet
        case rel =>
          have hq : Only (b :: H) w w2 := (((HO.out.mono (by simp)).drewN nq).setCell ⟨b, 4, none⟩ (by simp) _).trans HO2.out (fun x hx => .inl hx)
          refine ⟨?_, ?_, hq.setCell ⟨b, 4, none⟩ (by simp) _⟩
          · rw [HE1.out, if_neg HM.out]
            exact HE2.out.setR n
          · have hfr := HE.out.fresh
            exact (((HB.out.drewN nq).other ⟨b, 4, none⟩ (Nat.ne_of_gt hb) _).only HO2.out (by
              intro x
              rcases List.mem_cons.1 x with x | x
              · omega
              · have := hfr _ x; omega)).other ⟨b, 4, none⟩ (Nat.ne_of_gt hb) _
    case rest =>
      obtain ⟨hE, hB, ho⟩ := hcut
      have hT := HT.out.only ho hbt
      obtain ⟨_, z1, _, _, _, _⟩ := hE.cells
      have b0 : wc.cell? ⟨w.heap.size, 0, none⟩ = some (.int .i64 i) := (hB.cell 0).trans rfl
      have b1 : wc.cell? ⟨w.heap.size, 1, none⟩ = some (.int .u8 bit) := (hB.cell 1).trans rfl
      have HE2 := Lib.hid hE
      have HT2 := Lib.hid hT
      have HO2 := Lib.hid ho
      clear hE hB ho hT
      go_wp2_with fail
      go_region_with (go_at_call 105; refine (see_any (T := T) ?_ i bit hi hbit).mono ?_; exact HT2.out.only (S := []) (by repeat (first | exact Only.refl _ _ | refine Only.drew ?_)) (by simp); rintro en w' ⟨rfl, hT3, ho3⟩; have HT3 := Lib.hid hT3; have HO3 := Lib.hid ho3; clear hT3 ho3)
      all_goals
        go_wp2_with fail
        have hr1 : e1.d = e.d ∧ 1 ≤ e1.r ∧ e1.r ≤ 510 := by
          rw [HE1.out]
          split
          · exact ⟨rfl, by simp only []; omega, by simp only []; omega⟩
          · exact ⟨rfl, by simp only []; omega, by simp only []; omega⟩
        obtain ⟨r1, r2, r3⟩ := hr1
        have hE3 := (HE2.out.only ((Only.refl [] wc).drew) (by simp) (by simp)).only HO3.out (by simp; intro x; exact hbt (by simp [x])) (by intro x hx; simp; intro y; exact hbt (by rw [← y]; exact List.mem_cons_of_mem _ hx))
        refine (renorm_any hE3 (by omega) r2 r3).mono ?_
        rintro en w3 ⟨rfl, H3, hE4, hH4, ho4⟩
        have HE4 := Lib.hid hE4
        have HH4 := Lib.hid hH4
        have HO4 := Lib.hid ho4
        clear hE3 hE4 hH4 ho4
        go_wp2_with fail
        go_returns
        have hq : Only (bt :: b :: H) w w' := ((HO2.out.mono (T := bt :: b :: H) (fun x hx => List.mem_cons_of_mem _ hx)).drew).trans HO3.out (fun x hx => .inl (by simp at hx; simp [hx]))
        refine ⟨by simp, H3, ?_, HT3.out.only HO4.out hbt, ?_, hq.trans HO4.out (fun x hx => .inl (List.mem_cons_of_mem _ hx))⟩
        · have he : e.reg (T i) bit = ren e1 := by
            rw [HE1.out, HN.out]
            rfl
          rw [he]
          exact HE4.out
        · intro x hx
          rcases HH4.out x hx with h | h
          · exact .inl h
          · exact .inr (Nat.le_trans hq.size h)

end Go.Proofs.Ytbpdhfenomebpaa
