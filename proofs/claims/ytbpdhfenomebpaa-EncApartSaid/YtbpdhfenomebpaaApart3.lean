/-
  EncApart: the walk.
-/
import Derived.Test.YtbpdhfenomebpaaApart2
namespace Go.Proofs.Ytbpdhfenomebpaa
open Go.RowKit Sp

set_option maxRecDepth 100000 in
set_option maxHeartbeats 20000000 in
theorem apart_any {w : World} {Gc Ga Gb : List Nat} {ctxs : List Int} {l m : List Bool} {ac al am : Option Addr} {cc capl capm : Nat} (cl qp : Int) (h1 : -9223372036854775808 ≤ cl ∧ cl ≤ 9223372036854775807) (h2 : -9223372036854775808 ≤ qp ∧ qp ≤ 9223372036854775807)
    (hc : OneIn intV w (.slice ac ctxs.length cc) Gc ctxs) (hlc : ctxs.length ≤ 9223372036854775807) (hcw : ∀ x ∈ ctxs, -9223372036854775808 ≤ x ∧ x ≤ 9223372036854775807)
    (hl : OneIn boolV w (.slice al l.length capl) Ga l) (hll : l.length ≤ 9223372036854775807) (hm : OneIn boolV w (.slice am m.length capm) Gb m) (hlm : m.length ≤ 9223372036854775807) :
    Calls Try.prog 8 #[.int .i64 cl, .int .i64 qp, .slice ac ctxs.length cc, .slice al l.length capl, .slice am m.length capm] w fun en w' => en = .returned (.bool true) ∧ Only [] w w' := by
  have r1 := restN_lt cl 4 (by decide)
  have r2 := restN_lt qp 52 (by decide)
  have HC := Lib.hid hc
  have HL := Lib.hid hl
  have HM := Lib.hid hm
  have HW := Lib.hid hcw
  clear hc hl hm hcw
  go_enter Try.func8, Try.ntmps8
  go_wp2_with fail
  refine (rest_any cl 4 (by decide) (by decide) h1.1 h1.2).mono ?_
  rintro en w1 ⟨rfl, rfl⟩
  go_wp2_with fail
  refine (rest_any qp 52 (by decide) (by decide) h2.1 h2.2).mono ?_
  rintro en w1 ⟨rfl, rfl⟩
  obtain ⟨cl', hcl⟩ : ∃ x, x = restN cl 4 := ⟨_, rfl⟩
  obtain ⟨qp', hqp⟩ : ∃ x, x = restN qp 52 := ⟨_, rfl⟩
  rw [← hcl, ← hqp]
  rw [← hcl] at r1
  rw [← hqp] at r2
  clear hcl hqp
  go_wp2_with fail
  have hO0 : Only [] w (w.alloc (.cells #[.slice ac ctxs.length cc] 79)) := (Only.refl [] w).alloc _
  have hbx0 := Blk.new w #[.slice ac ctxs.length cc] 79
  have hcall := list_any (bx := w.heap.size) (HC.out.only hO0 (by simp)) (HL.out.only hO0 (by simp)) hlc hll HW.out ((hbx0.cell 0).trans rfl)
  refine hcall.mono ?_
  clear hcall
  rintro en w2 ⟨ax, capx, rfl, p1, p2⟩
  have A1 := Lib.hid p1
  have A2 := Lib.hid (hO0.trans p2 (by simp))
  have A3 := Lib.hid (hbx0.only p2 (by simp))
  clear p1 p2 hO0 hbx0
  go_wp2_with fail
  have hcall := list_any (bx := w.heap.size) (HC.out.only A2.out (by simp)) (HM.out.only A2.out (by simp)) hlc hlm HW.out ((A3.out.cell 0).trans rfl)
  refine hcall.mono ?_
  clear hcall
  rintro en w3 ⟨ay, capy, rfl, p1, p2⟩
  have hctx := fit_rawL_ctx ctxs l m
  have hlx := fit_rawL_len ctxs l
  have hly := fit_rawL_len ctxs m
  have hokx := fit_ok (rawL ctxs l)
  have hoky := fit_ok (rawL ctxs m)
  obtain ⟨X, hX⟩ : ∃ X, X = fit (rawL ctxs l) := ⟨_, rfl⟩
  obtain ⟨Y, hY⟩ : ∃ Y, Y = fit (rawL ctxs m) := ⟨_, rfl⟩
  rw [← hX] at A1 hctx hlx hokx
  rw [← hY] at p1 hctx hly hoky
  rw [← hX, ← hY]
  have B1 := Lib.hid (A1.out.only p2 (by simp))
  have B2 := Lib.hid p1
  have B3 := Lib.hid (A2.out.trans p2 (by simp))
  have HCT := Lib.hid hctx
  have HOX := Lib.hid hokx
  have HOY := Lib.hid hoky
  have hx0 : 0 < X.length ∧ X.length ≤ 61 := by omega
  have hy0 : 0 < Y.length ∧ Y.length ≤ 61 := by omega
  obtain ⟨hx1, hx2⟩ := hx0
  obtain ⟨hy1, hy2⟩ := hy0
  clear A1 A2 A3 p1 p2 hX hY hctx hokx hoky hlx hly HC HL HM HW
  obtain ⟨GX, hGX⟩ : ∃ q, q = (Value.slice ax X.length capx).ownBlock.toList := ⟨_, rfl⟩
  obtain ⟨GY, hGY⟩ : ∃ q, q = (Value.slice ay Y.length capy).ownBlock.toList := ⟨_, rfl⟩
  rw [← hGX] at B1
  rw [← hGY] at B2
  clear hGX hGY
  go_wp2_with fail
  have hXne : X ≠ [] := fun e => by rw [e] at hx1; simp at hx1
  have hYne : Y ≠ [] := fun e => by rw [e] at hy1; simp at hy1
  have NX := Lib.hid hXne
  have NY := Lib.hid hYne
  clear hXne hYne
  go_loopw [14, 15] (fun sv iv wr => ∃ (k : Nat) (b : Bool), iv = .int .i64 k ∧ sv = .bool b ∧ Only [] w3 wr ∧ (b = true → X.length = Y.length ∧ k ≤ X.length ∧ X.take k = Y.take k) ∧ (b = false → X ≠ Y)) (fun _ iv _ => X.length - (intOf iv).toNat)
  case atStart =>
    refine ⟨0, _, rfl, rfl, Only.refl _ _, fun h => ⟨?_, Nat.zero_le _, rfl⟩, fun h e => ?_⟩
    · simp at h; omega
    · simp at h; exact h (by rw [e])
  case round =>
    obtain ⟨k, b, rfl, rfl, p1, p2, p3⟩ := hrel
    have O1 := Lib.hid p1
    clear p1
    cases b with
    | false =>
      have hne := p3 rfl
      have hst : (start cl' qp').ok := ⟨E.ini_ok, fun i => ini_ok i _ _⟩
      have hP := fun (bs : List Nat) (hbs : ∀ b ∈ bs, b ≤ 1) => Sp.apart hbs X Y (start cl' qp') hst NX.out NY.out HOX.out HOY.out HCT.out
      have c1 := fun W (ho : Only [] wr W) => chain_any cl' qp' (by omega) (by omega) (B1.out.only (O1.out.trans ho (by simp)) (by simp)) HOX.out (by omega) NX.out
      have c2 := fun W (ho : Only [] wr W) => chain_any cl' qp' (by omega) (by omega) (B2.out.only (O1.out.trans ho (by simp)) (by simp)) HOY.out (by omega) NY.out
      have hb1 : ∀ x ∈ (TE.chain (start cl' qp') X).e.out, x ≤ 1 := bitsOf_le _ _
      have hb2 : ∀ x ∈ (TE.chain (start cl' qp') Y).e.out, x ≤ 1 := bitsOf_le _ _
      obtain ⟨P, hPe⟩ : ∃ P, P = (TE.chain (start cl' qp') X).e.out := ⟨_, rfl⟩
      obtain ⟨R, hRe⟩ : ∃ R, R = (TE.chain (start cl' qp') Y).e.out := ⟨_, rfl⟩
      rw [← hPe] at hP c1 hb1
      rw [← hRe] at hP c2 hb2
      have n1 : ¬ R <+: P := fun h => hne (hP P hb1 (List.prefix_refl _) h)
      have n2 : ¬ P <+: R := fun h => hne (hP R hb2 h (List.prefix_refl _))
      have n3 : ((txt P).toList == (txt R).toList) = false := by
        rw [beq_eq_false_iff_ne]
        intro e
        rw [ByteArray.toList_eq, ByteArray.toList_eq] at e
        have := txt_inj hb1 hb2 (ByteArray.ext (Array.ext' e))
        exact n2 (by rw [this]; exact List.prefix_refl _)
      have e1 := fun W => prefix_no (w := W) hb1 hb2 n1
      have e2 := fun W => prefix_no (w := W) hb2 hb1 n2
      obtain ⟨t1, ht1⟩ : ∃ t, t = txt P := ⟨_, rfl⟩
      obtain ⟨t2, ht2⟩ : ∃ t, t = txt R := ⟨_, rfl⟩
      rw [← ht1] at c1 n3 e1 e2
      rw [← ht2] at c2 n3 e1 e2
      have C1 := Lib.hid c1
      have C2 := Lib.hid c2
      have E1 := Lib.hid e1
      have E2 := Lib.hid e2
      clear hne hP c1 c2 hb1 hb2 hPe hRe n1 n2 e1 e2 ht1 ht2 p2 p3 hst
      go_wp2_with fail
      refine (C1.out _ (Only.refl _ _)).mono ?_
      rintro en w5 ⟨rfl, q1⟩
      have Q1 := Lib.hid q1
      clear q1
      go_wp2_with fail
      refine (C2.out _ Q1.out).mono ?_
      rintro en w6 ⟨rfl, q1⟩
      have Q2 := Lib.hid (Q1.out.trans q1 (by simp))
      clear q1
      go_wp2_with fail
      refine (E1.out _).mono ?_
      rintro en w7 ⟨rfl, q1⟩
      have Q3 := Lib.hid (Q2.out.trans q1 (by simp))
      clear q1
      go_wp2_with fail
      refine (E2.out _).mono ?_
      rintro en w8 ⟨rfl, q1⟩
      have Q4 := Lib.hid (Q3.out.trans q1 (by simp))
      clear q1
      go_wp2_with fail
      refine (alive_any _).mono ?_
      rintro en w9 ⟨rfl, q1⟩
      have Q5 := Lib.hid (((B3.out.trans O1.out (by simp)).trans Q4.out (by simp)).trans q1 (by simp))
      clear q1
      go_wp2_with fail
      go_returns
      exact ⟨rfl, Q5.out⟩
    | true =>
      obtain ⟨hXY, hkX, htk⟩ := p2 rfl
      clear p2 p3
      by_cases hlt : k < X.length
      · have hcx := HCT.out k hlt (by omega)
        have hBX := B1.out.only O1.out (by simp)
        have hBY := B2.out.only O1.out (by simp)
        rcases hBX.here with hn | ⟨g, off, c3, hv, _, hg, hcp, hmm, hcells⟩
        · exact absurd hn NX.out
        rcases hBY.here with hn | ⟨g', off', c3', hv', _, hg', hcp', hmm', hcells'⟩
        · exact absurd hn NY.out
        obtain ⟨rfl, rfl⟩ : ax = some ⟨g, off, none⟩ ∧ capx = c3 := by simpa using hv
        obtain ⟨rfl, rfl⟩ : ay = some ⟨g', off', none⟩ ∧ capy = c3' := by simpa using hv'
        obtain ⟨k0, k1⟩ := hcells k hlt
        obtain ⟨k0', k1'⟩ := hcells' k (by omega)
        have hty := fun (h : X[k] = Y[k]'(by omega)) => (show X.take (k + 1) = Y.take (k + 1) from by
          rw [List.take_succ_eq_append_getElem hlt, List.take_succ_eq_append_getElem (by omega), htk, h])
        have hnx := fun (h : X[k] ≠ Y[k]'(by omega)) => (show X ≠ Y from fun e => h (by subst e; rfl))
        obtain ⟨⟨c, b1⟩, hxk⟩ : ∃ x : Bn, x = X[k] := ⟨_, rfl⟩
        obtain ⟨⟨c', b2⟩, hyk⟩ : ∃ x : Bn, x = Y[k]'(by omega) := ⟨_, rfl⟩
        rw [← hxk] at k0 k1 hcx hty hnx
        rw [← hyk] at k0' k1' hcx hty hnx
        simp only [] at k0 k1 k0' k1' hcx
        subst hcx
        have HTY := Lib.hid hty
        have HNX := Lib.hid hnx
        have hXY2 := Lib.hid hXY
        have hlY : k < Y.length := by omega
        clear hBX hBY hv hv' hcells hcells' hxk hyk hty hnx htk hXY
        by_cases hbb : b1 = b2
        · subst hbb
          go_wp2_with fail
          go_quiet (fail)
          go_wp2_with fail
          go_roundw
          case rel => exact ⟨k + 1, true, by go_num, by simp, O1.out.drewN _, ⟨fun _ => ⟨hXY2.out, by omega, HTY.out (by first | rfl | trivial)⟩, fun h => by cases h⟩⟩
          case measure => simp [intOf]; omega
        · have hbn : ((b1 : Int) == (b2 : Int)) = false := by rw [beq_eq_false_iff_ne]; omega
          have hbn2 : ¬ ((b1 : Int) = (b2 : Int)) := by omega
          go_wp2_with fail
          go_quiet (fail)
          go_wp2_with fail
          go_roundw
          case rel => exact ⟨k + 1, false, by go_num, by simp, O1.out.drewN _, ⟨(fun h => by cases h), fun _ => HNX.out (fun e => hbb (congrArg Prod.snd e))⟩⟩
          case measure => simp [intOf]; omega
      · have hXeq : X = Y := by
          have e1 : X.take k = X := List.take_of_length_le (by omega)
          have e2 : Y.take k = Y := List.take_of_length_le (by omega)
          rw [← e1, htk, e2]
        subst hXeq
        have c1 := fun W (ho : Only [] wr W) => chain_any cl' qp' (by omega) (by omega) (B1.out.only (O1.out.trans ho (by simp)) (by simp)) HOX.out (by omega) NX.out
        have c2 := fun W (ho : Only [] wr W) => chain_any cl' qp' (by omega) (by omega) (B2.out.only (O1.out.trans ho (by simp)) (by simp)) HOX.out (by omega) NX.out
        obtain ⟨t1, ht1⟩ : ∃ t, t = txt (TE.chain (start cl' qp') X).e.out := ⟨_, rfl⟩
        rw [← ht1] at c1 c2
        have C1 := Lib.hid c1
        have C2 := Lib.hid c2
        clear c1 c2 ht1 htk hXY
        go_wp2_with fail
        refine (C1.out _ (Only.refl _ _)).mono ?_
        rintro en w5 ⟨rfl, q1⟩
        have Q1 := Lib.hid q1
        clear q1
        go_wp2_with fail
        refine (C2.out _ Q1.out).mono ?_
        rintro en w6 ⟨rfl, q1⟩
        have Q2 := Lib.hid (Q1.out.trans q1 (by simp))
        clear q1
        go_wp2_with fail
        refine (alive_any _).mono ?_
        rintro en w9 ⟨rfl, q1⟩
        have Q5 := Lib.hid (((B3.out.trans O1.out (by simp)).trans Q2.out (by simp)).trans q1 (by simp))
        clear q1
        go_wp2_with fail
        go_returns
        exact ⟨rfl, Q5.out⟩

end Go.Proofs.Ytbpdhfenomebpaa
