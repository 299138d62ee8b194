/-
  The reference's encoder: renormalize, one.
-/
import Derived.Test.YtbpdhfenomebpaaREnc
import Derived.Test.YtbpdhfenomebpaaEnc4
namespace Go.Proofs.Ytbpdhfenomebpaa
open Go.RowKit Sp

set_option maxRecDepth 100000 in
set_option maxHeartbeats 1600000 in
theorem rrenorm_any {w : World} {b bs bt g : Nat} {e : E} (h : REnc w b bs bt g e) (hd : e.d ≤ 900000000000) (h1 : 1 ≤ e.r) (hr : e.r ≤ 510) :
    Calls Try.prog 95 #[.pointer (some ⟨b, 0, none⟩)] w fun en w' => en = .returned (.tuple #[]) ∧
      ∃ g', REnc w' b bs bt g' (ren e) ∧ (g' = g ∨ w.heap.size ≤ g') ∧ Only [b, g] w w' := by
  go_enter Try.func95, Try.ntmps95
  go_wp2_with fail
  go_loopg [] 9 (fun f wr => ∃ (e' : E) (g' : Nat), REnc wr b bs bt g' e' ∧ renN f e' = ren e ∧ 256 ≤ e'.r * 2 ^ f ∧ e'.r ≤ 510 ∧ 1 ≤ e'.r ∧ e'.d + f ≤ e.d + 9 ∧ (g' = g ∨ w.heap.size ≤ g') ∧ Only [b, g] w wr)
  case atStart => exact ⟨e, g, h, rfl, by omega, hr, h1, by omega, .inl rfl, Only.refl _ _⟩
  case round =>
    obtain ⟨e', g', hE, hren, hf, hr', h1', hd', hH, ho⟩ := hrel
    obtain ⟨_, _, c4, _, hfr⟩ := hE.cells
    have f4 := hfr 3
    clear hfr
    have HE := Lib.hid hE
    have HR := Lib.hid hren
    have HF := Lib.hid hf
    have HH := Lib.hid hH
    have HO := Lib.hid ho
    clear hE hren hf hH ho h
    by_cases hlt : e'.r < 256
    · obtain ⟨f, rfl⟩ : ∃ f, gk = f + 1 := by
        cases gk with
        | zero => exfalso; have := HF.out; simp at this; omega
        | succ f => exact ⟨f, rfl⟩
      go_wp2_with fail
      refine (double_any HE.out (by omega)).mono ?_
      rintro en w2 ⟨rfl, g2, hE2, hH2, ho2⟩
      obtain ⟨_, _, c4', _, hfr⟩ := hE2.cells
      simp only [] at c4'
      have f4' := hfr 3
      have hs := Lib.hid (hE2.setR (2 * e'.r))
      have hcast : ((2 * e'.r : Nat) : Int) = 2 * (e'.r : Int) := by omega
      rw [hcast] at hs
      have HH2 := Lib.hid hH2
      have HO2 := Lib.hid ho2
      clear hE2 hH2 ho2 hfr hcast
      go_wp2_with fail
      go_roundg f
      case measure => omega
      case rel =>
        refine ⟨_, g2, hs.out, ?_, ?_, by simp only []; omega, by simp only []; omega, by simp only []; omega, ?_, ?_⟩
        · rw [← HR.out, renN, if_pos hlt]
        · have := HF.out
          simp only [Nat.pow_succ] at this ⊢
          rw [Nat.mul_comm 2 e'.r, Nat.mul_assoc, Nat.mul_comm 2]
          exact this
        · have := HO.out.size
          rcases HH2.out with q | q
          · rcases HH.out with p | p
            · exact .inl (by omega)
            · exact .inr (by omega)
          · exact .inr (by omega)
        · refine (HO.out.trans HO2.out (fun x hx => ?_)).setCell ⟨b, 3, none⟩ (by simp) _
          simp only [List.mem_cons, List.not_mem_nil, or_false] at hx ⊢
          rcases hx with q | q
          · exact .inl (.inl q)
          · rcases HH.out with p | p
            · exact .inl (.inr (by omega))
            · exact .inr (by omega)
    · go_wp2_with fail
      go_returns
      refine ⟨rfl, g', ?_, HH.out, HO.out⟩
      have : renN gk e' = e' := by
        cases gk with
        | zero => rfl
        | succ f => rw [renN, if_neg hlt]
      rw [← HR.out, this]
      exact HE.out


theorem ok_fits (d x : Nat) (hx : x ≤ 510 * 2 ^ d) : x < 2 ^ (9 + d) := by
  have := Nat.two_pow_pos d
  rw [Nat.pow_add, pow9]
  omega

set_option maxRecDepth 100000 in
set_option maxHeartbeats 1600000 in
theorem rone_byp {w : World} {b bs bt g : Nat} {e : E} (h : REnc w b bs bt g e) (hok : e.ok) (hd : e.d ≤ 900000000000) (c : Int) (hc : c < 0) (bit : Nat) (_hbit : bit ≤ 1) :
    Calls Try.prog 94 #[.pointer (some ⟨b, 0, none⟩), .agg #[.int .i64 c, .int .u8 bit]] w fun en w' => en = .returned (.tuple #[]) ∧
      ∃ g', REnc w' b bs bt g' (e.byp bit) ∧ (g' = g ∨ w.heap.size ≤ g') ∧ Only [b, g] w w' := by
  have hb := h.lt
  have hgl := h.glt
  have HC := Lib.hid hc
  have HE := Lib.hid h
  have HK := Lib.hid hok
  clear h hok
  go_enter Try.func94, Try.ntmps94
  go_wp2_with fail
  refine (double_any (HE.out.only ((Only.refl [] w).alloc _) (by simp) (by simp)) (by omega)).mono ?_
  rintro en w2 ⟨rfl, g2, r1, r2, r3⟩
  obtain ⟨_, _, c3, _, _⟩ := r1.cells
  simp only [] at c3
  have b1 : w2.cell? ⟨w.heap.size, 1, none⟩ = some (.int .u8 bit) := (((Blk.new w #[.int .i64 c, .int .u8 bit] 25).only r3 (by simp; omega)).cell 1).trans rfl
  have R1 := Lib.hid r1
  have R2 : Hid (g2 = g ∨ w.heap.size ≤ g2) := by
    rcases r2 with q | q
    · exact .inl q
    · simp at q; exact .inr (by omega)
  have R3 := Lib.hid ((((Only.refl [] w).alloc (.cells #[.int .i64 c, .int .u8 bit] 25)).mono (by simp)).trans r3 (T := [b, g]) (S := [b, g]) (fun x hx => .inl hx))
  clear r1 r2 r3
  by_cases hb1 : bit = 1
  · have t1 : ((bit : Int) == 1) = true := by simp [hb1]
    have HB := Lib.hid hb1
    clear hb1
    go_wp2_with fail
    obtain ⟨k1, k2, k3⟩ := HK.out
    refine (radd_any R1.out (by simp only []; omega) e.r (by omega) (by
      simp only []
      exact ok_fits (e.d + 1) _ (by rw [Nat.pow_succ]; omega))).mono ?_
    rintro en w3 ⟨rfl, r1, r2⟩
    have S1 := Lib.hid r1
    have S2 := Lib.hid (R3.out.trans r2 (fun x hx => by
      simp only [List.mem_singleton] at hx
      rcases R2.out with q | q
      · exact .inl (by simp; right; omega)
      · exact .inr (by omega)))
    clear r1 r2
    go_wp2_with fail
    go_returns
    refine ⟨rfl, g2, ?_, R2.out, S2.out⟩
    have := S1.out
    unfold E.byp
    rw [if_pos HB.out]
    exact this
  · have t1 : ((bit : Int) == 1) = false := by simp; omega
    have HB := Lib.hid hb1
    clear hb1
    go_wp2_with fail
    go_returns
    refine ⟨rfl, g2, ?_, R2.out, R3.out⟩
    unfold E.byp
    rw [if_neg HB.out]
    exact R1.out


set_option maxRecDepth 100000 in
set_option maxHeartbeats 3200000 in
theorem rone_reg {w : World} {b bs bt gt g : Nat} {e : E} {T : Nat → St} (h : REnc w b bs bt g e) (hok : e.ok) (hd : e.d ≤ 900000000000) (hT : RTab w bt gt T) (h1 : bt ≠ b) (h2 : bt ≠ g) (h3 : gt ≠ b) (h4 : gt ≠ g) (h5 : bt ≠ gt) (i bit : Nat) (hi : i < 286) (hbit : bit ≤ 1) :
    Calls Try.prog 94 #[.pointer (some ⟨b, 0, none⟩), .agg #[.int .i64 i, .int .u8 bit]] w fun en w' => en = .returned (.tuple #[]) ∧
      ∃ g', REnc w' b bs bt g' (e.reg (T i) bit) ∧ RTab w' bt gt (upd T i (nxt (T i) bit)) ∧ (g' = g ∨ w.heap.size ≤ g') ∧ Only [gt, b, g] w w' := by
  obtain ⟨ok1, ok2, ok3⟩ := hok
  have hb := h.lt
  have hgl := h.glt
  have hbk : ∀ j, b < w.heap.size + j := fun j => by omega
  obtain ⟨_, c1, c3, _, hfr⟩ := h.cells
  have htl := hT.lt
  have f3 := hfr 3
  have HE := Lib.hid h
  have HT := Lib.hid hT
  have N1 := Lib.hid h1
  have N2 := Lib.hid h2
  have N3 := Lib.hid h3
  have N4 := Lib.hid h4
  have N5 := Lib.hid h5
  clear h hT hfr h1 h2 h3 h4 h5
  go_enter Try.func94, Try.ntmps94
  go_upto_region 5 with fail
  go_cut [4] (fun s4 wx => ∃ q : Nat, s4 = .pointer (some ⟨q, 0, none⟩) ∧ w.heap.size < q ∧ Blk wx q #[.int .u8 (T i).p, .int .u8 (T i).m] 63 ∧ Blk wx w.heap.size #[.int .i64 i, .int .u8 bit] 25 ∧ Only [] w wx)
  case first =>
    go_region_with (go_at_call 38; refine (rstate_any (g := gt) (T := T) ?_ i hi).mono ?_; exact HT.out.only (S := []) (by repeat (first | exact Only.refl _ _ | refine Only.alloc ?_ _ | refine Only.drew ?_)) (by simp) (by simp); rintro en w' ⟨rfl, cc, rfl⟩)
    all_goals
      go_wp2_with fail
      go_meet
      case rel =>
        first
          | exact ⟨_, rfl, by omega, (Blk.new' _ _ (by simp)).drew, (((Blk.new _ _ _).alloc _).alloc _).drew, ((((Only.refl [] w).alloc _).alloc _).alloc _).drew⟩
          | exact ⟨_, rfl, by omega, ((Blk.new' _ _ (by simp)).alloc _).drew, (((Blk.new _ _ _).alloc _).alloc _).drew, ((((Only.refl [] w).alloc _).alloc _).alloc _).drew⟩
  case rest =>
    obtain ⟨q, rfl, hg, hS, hB, ho⟩ := hcut
    have hEx := HE.out.only ho (by simp) (by simp)
    obtain ⟨_, x1, x3, _, xfr⟩ := hEx.cells
    have s0 : wc.cell? ⟨q, 0, none⟩ = some (.int .u8 (T i).p) := (hS.cell 0).trans rfl
    have s1 : wc.cell? ⟨q, 1, none⟩ = some (.int .u8 (T i).m) := (hS.cell 1).trans rfl
    have b0 : wc.cell? ⟨w.heap.size, 0, none⟩ = some (.int .i64 i) := (hB.cell 0).trans rfl
    have b1 : wc.cell? ⟨w.heap.size, 1, none⟩ = some (.int .u8 bit) := (hB.cell 1).trans rfl
    have g3 := xfr 3
    have HX := Lib.hid hEx
    have HO := Lib.hid ho
    have HS := Lib.hid hS
    have HB := Lib.hid hB
    clear hEx ho hS hB xfr
    obtain ⟨o1, o2⟩ := HT.out.ok i
    go_wp2_with fail
    go_quiet ((go_at_call 110; exact Calls.quiet_of_same (rshare_r _ _ _ o1)))
    obtain ⟨g1, g2⟩ := share_fits (T i).p ok2 ok3
    obtain ⟨n, hn⟩ : ∃ n, n = share (T i).p (e.r / 64 % 4) := ⟨_, rfl⟩
    rw [← hn] at g1 g2 ⊢
    have HN := Lib.hid hn
    clear hn
    obtain ⟨e1, he1⟩ : ∃ e1 : E, e1 = (if bit = (T i).m then ⟨e.c, e.d, e.r - n⟩ else ⟨e.c + (e.r - n), e.d, n⟩) := ⟨_, rfl⟩
    have HE1 := Lib.hid he1
    clear he1
    have hs := HX.out.only ((Only.refl [] wc).drewN nq) (by simp) (by simp)
    have hs2 := Lib.hid (hs.setR (e.r - n))
    have hs3 := Lib.hid (hs.setR (e.r - n))
    have hcast : ((e.r - n : Nat) : Int) = (e.r : Int) - n := by omega
    rw [hcast] at hs2
    have HC := Lib.hid hcast
    clear hs hcast
    go_upto_if 57 with fail
    go_cut [] (fun wy => REnc wy b bs bt g e1 ∧ Blk wy w.heap.size #[.int .i64 i, .int .u8 bit] 25 ∧ Only [b, g] w wy)
    case first =>
      by_cases hbm : bit = (T i).m
      · have t1 : ((bit : Int) != (T i).m) = false := by simp [hbm]
        have HM := Lib.hid hbm
        clear hbm
        go_wp2_with fail
        go_meet
        case rel =>
          refine ⟨?_, (HB.out.drewN nq).other ⟨b, 3, none⟩ (Nat.ne_of_gt hb) _, ((HO.out.mono (by simp)).drewN nq).setCell ⟨b, 3, none⟩ (by simp) _⟩
          rw [HE1.out, if_pos HM.out]
          exact hs2.out
      · have t1 : ((bit : Int) != (T i).m) = true := by simp; omega
        have HM := Lib.hid hbm
        clear hbm
        go_wp2_with fail
        rw [← HC.out]
        refine (radd_any hs3.out (by simp only []; omega) (e.r - n) (by omega) (by simp only []; exact ok_fits e.d _ (by omega))).mono ?_
        rintro en w2 ⟨rfl, hE2, ho2⟩
        obtain ⟨_, _, y3, _, yfr⟩ := hE2.cells
        have yf := yfr 3
        have HE2 := Lib.hid hE2
        have HO2 := Lib.hid ho2
        clear hE2 ho2 yfr
        go_wp2_with fail
        go_meet
        case rel =>
          have hq : Only [b, g] w w2 := (((HO.out.mono (by simp)).drewN nq).setCell ⟨b, 3, none⟩ (by simp) _).trans HO2.out (fun x hx => .inl (by simp at hx; simp [hx]))
          refine ⟨?_, ?_, hq.setCell ⟨b, 3, none⟩ (by simp) _⟩
          · rw [HE1.out, if_neg HM.out]
            exact HE2.out.setR n
          · exact (((HB.out.drewN nq).other ⟨b, 3, none⟩ (Nat.ne_of_gt hb) _).only HO2.out (by simp; omega)).other ⟨b, 3, none⟩ (Nat.ne_of_gt hb) _
    case rest =>
      obtain ⟨hE, hB, ho⟩ := hcut
      have hT := HT.out.only ho (by simp; exact ⟨N1.out, N2.out⟩) (by simp; exact ⟨N3.out, N4.out⟩)
      obtain ⟨_, z1, _, _, _⟩ := hE.cells
      have b0 : wc.cell? ⟨w.heap.size, 0, none⟩ = some (.int .i64 i) := (hB.cell 0).trans rfl
      have b1 : wc.cell? ⟨w.heap.size, 1, none⟩ = some (.int .u8 bit) := (hB.cell 1).trans rfl
      have HE2 := Lib.hid hE
      have HT2 := Lib.hid hT
      have HO2 := Lib.hid ho
      clear hE hB ho hT
      go_wp2_with fail
      go_region_with (go_at_call 111; refine (rsee_any (g := gt) (T := T) ?_ N5.out i bit hi hbit).mono ?_; exact HT2.out.only (S := []) (by repeat (first | exact Only.refl _ _ | refine Only.drew ?_)) (by simp) (by simp); rintro en w' ⟨rfl, hT3, ho3⟩; have HT3 := Lib.hid hT3; have HO3 := Lib.hid ho3; clear hT3 ho3)
      all_goals
        go_wp2_with fail
        have hr1 : e1.d = e.d ∧ 1 ≤ e1.r ∧ e1.r ≤ 510 := by
          rw [HE1.out]
          split
          · exact ⟨rfl, by simp only []; omega, by simp only []; omega⟩
          · exact ⟨rfl, by simp only []; omega, by simp only []; omega⟩
        obtain ⟨r1, r2, r3⟩ := hr1
        have hE3 := (HE2.out.only ((Only.refl [] wc).drew) (by simp) (by simp)).only HO3.out (by simp; exact N3.out.symm) (by simp; exact N4.out.symm)
        refine (rrenorm_any hE3 (by omega) r2 r3).mono ?_
        rintro en w3 ⟨rfl, g3', hE4, hH4, ho4⟩
        have HE4 := Lib.hid hE4
        have HH4 := Lib.hid hH4
        have HO4 := Lib.hid ho4
        clear hE3 hE4 hH4 ho4
        go_wp2_with fail
        go_returns
        have hq : Only [gt, b, g] w w' := ((HO2.out.mono (T := [gt, b, g]) (fun x hx => List.mem_cons_of_mem _ hx)).drew).trans HO3.out (fun x hx => .inl (by simp at hx; simp [hx]))
        refine ⟨rfl, g3', ?_, HT3.out.only HO4.out (by simp; exact ⟨N1.out, N2.out⟩) (by simp; exact ⟨N3.out, N4.out⟩), ?_, hq.trans HO4.out (fun x hx => .inl (List.mem_cons_of_mem _ hx))⟩
        · have he : e.reg (T i) bit = ren e1 := by
            rw [HE1.out, HN.out]
            rfl
          rw [he]
          exact HE4.out
        · rcases HH4.out with p | p
          · exact .inl p
          · exact .inr (Nat.le_trans hq.size p)

end Go.Proofs.Ytbpdhfenomebpaa
