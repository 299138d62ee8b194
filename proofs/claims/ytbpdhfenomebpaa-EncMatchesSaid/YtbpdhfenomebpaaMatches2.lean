/-
  EncMatches: the walk.
-/
import Derived.Test.YtbpdhfenomebpaaMatches
namespace Go.Proofs.Ytbpdhfenomebpaa
open Go.RowKit Sp

set_option maxRecDepth 100000 in
set_option maxHeartbeats 40000000 in
theorem matches_any {w : World} {a : Option Addr} {cap : Nat} {G : List Nat} {l : List Ac} (cl qp many : Int) (hl : ActsIn w (.slice a l.length cap) G l) (hlen : l.length ≤ 9223372036854775807) (hwf : ∀ x ∈ l, x.wf) :
    Calls Try.prog 4 #[.int .i64 cl, .int .i64 qp, .int .i64 many, .slice a l.length cap] w fun en w' => en = .returned (.bool true) ∧ Only [] w w' := by
  have r1 := restN_lt many 21 (by decide)
  have q1 := tmod_pos (n := many) (m := 21) (by decide)
  have HF := Lib.hid hl
  have HW := Lib.hid hwf
  have HM := Lib.hid (show many.tmod 21 % 21 = (restN many 21 : Int) by
    have := rest_eq many 21 (by decide)
    rw [Int.add_emod_right] at this
    exact this)
  clear hl hwf
  go_enter Try.func4, Try.ntmps4
  go_wp2_with fail
  refine (new_both cl qp _).mono ?_
  rintro en w1 ⟨t, rfl, p1, p2⟩
  have A1 := Lib.hid p1
  have A2 := Lib.hid p2
  clear p1 p2
  go_wp2_with fail
  refine (rnew_both A1.out A2.out).mono ?_
  rintro en w2 ⟨u, o, rfl, p1, p2⟩
  have B1 := Lib.hid p1
  have B2 := Lib.hid (A2.out.trans p2 (by simp))
  clear p1 p2 A1 A2
  obtain ⟨rc, hrc⟩ : ∃ x, x = codeT cl qp := ⟨_, rfl⟩
  rw [← hrc]
  clear hrc
  go_upto_region 3 with fail
  go_cut [44] (fun c wx => c = .bool false ∧ wx = w2)
  case first =>
    rcases B1.out.same with ⟨rfl, rfl⟩ | ⟨b, c, rfl, rfl⟩
    all_goals
      try unfold pt
      go_wp2_with fail
      go_meet
      exact ⟨rfl, rfl⟩
  case rest =>
  obtain ⟨rfl, rfl⟩ := hcut
  go_wp2_with fail
  rw [HM.out]
  refine (writer_any (restN many 21) (by omega)).mono ?_
  obtain ⟨L, hL⟩ : ∃ x, x = List.replicate (restN many 21) 1 := ⟨_, rfl⟩
  have hLl : L.length ≤ 20 := by rw [hL, List.length_replicate]; omega
  rw [← hL]
  rintro en w3 ⟨bw, F, rfl, p1, p2, p3, p4⟩
  have C1 := Lib.hid (fun (W : World) (hA : Only [] w3 W) (bs : Nat) (hs : Sc W bs L) (hb : bs = w3.heap.size) => B1.out.start B2.out p4 hA p3 p1 p2 hs hb)
  have C2 := Lib.hid (B2.out.trans p4 (by simp))
  clear p1 p2 p3 p4 hL
  obtain ⟨t0, ht0⟩ : ∃ x, x = txt L := ⟨_, rfl⟩
  rw [← ht0]
  have T0 := Lib.hid ht0
  clear ht0
  go_wp2_with fail
  have hms := C1.out (w3.alloc (.cells #[.string t0] 9)) ((Only.refl [] w3).alloc _) w3.heap.size (by
    rw [T0.out]
    have hb := Blk.new w3 #[.string (txt L)] 9
    exact ⟨(hb.cell 0).trans rfl, hb.free 0⟩) rfl
  have M0 := Lib.hid hms
  clear hms C1
  have hp1 := M0.out.newP (by omega)
  have hd0 := Ob.new_d o L.length
  obtain ⟨rr, ho⟩ : ∃ q, q = o.new L.length := ⟨_, rfl⟩
  rw [← ho] at hp1 hd0
  refine hp1.mono ?_
  clear hp1
  rintro en w4 ⟨x, rfl, p1⟩
  have HO := Lib.hid ho
  clear ho
  have M1 := Lib.hid p1
  clear p1 M0
  go_wp2_with fail
  have hp1 := M1.out.newR
  have ho := HO.out
  rw [← ho] at hp1
  refine hp1.mono ?_
  clear hp1
  rintro en w5 ⟨y, rfl, p1⟩
  have hnv : ∀ T, rr.2 ≠ .over T := by
    intro T e
    rw [ho] at e
    unfold Ob.new at e
    split at e
    · cases e
    · split at e <;> cases e
  have M2 := Lib.hid p1
  have NV := Lib.hid hnv
  clear p1 M1 ho hnv HO
  obtain ⟨rc2, rr⟩ := rr
  simp only [] at M2 NV hd0
  simp only []
  go_upto_region 10 with fail
  go_cut [75] (fun c wx => c = .bool false ∧ wx = w5)
  case first =>
    rcases rr with T | s | T
    · obtain rfl := M2.out.noX
      obtain rfl := M2.out.noY
      go_wp2_with fail
      go_meet
      exact ⟨rfl, rfl⟩
    · obtain ⟨b, rfl⟩ := M2.out.onX
      obtain ⟨b2, rfl, _, _⟩ := M2.out.onY
      try unfold pt
      go_wp2_with fail
      go_meet
      exact ⟨rfl, rfl⟩
    · exact absurd rfl (NV.out T)
  case rest =>
  obtain ⟨rfl, rfl⟩ := hcut
  go_wp2_with fail
  obtain ⟨bs, hbs⟩ : ∃ b, b = w3.heap.size := ⟨_, rfl⟩
  rw [← hbs] at M2
  rw [← hbs]
  clear hbs
  go_loopw [15, 16, 17] (fun xv yv i wr => ∃ (k : Nat) (o : Ob) (L : List Nat) (x y : Value), xv = x ∧ yv = y ∧ k ≤ l.length ∧ k ≤ 150 ∧ i = .int .i64 k ∧ MS w wr t u x y bw bs L L o o ∧ (∀ T, o ≠ .over T) ∧ o.d + L.length ≤ 40 * k + 30) (fun _ _ i _ => 150 - (intOf i).toNat)
  case atStart => exact ⟨0, rr, L, x, y, rfl, rfl, Nat.zero_le _, Nat.zero_le _, rfl, M2.out, NV.out, by omega⟩
  case round =>
    clear M2 NV hd0
    clear x y
    obtain ⟨k, o, L, x, y, rfl, rfl, hk, hk2, rfl, m1, m2, m3⟩ := hrel
    obtain ⟨wo, rfl⟩ : ∃ wo : World, wo = wr := ⟨_, rfl⟩
    have R1 := Lib.hid m1
    have R2 := Lib.hid m2
    clear m1 m2
    by_cases hlt : k < l.length
    · by_cases hlt2 : k < 150
      · have hx := HW.out l[k] (List.getElem_mem _)
        obtain ⟨g, off, rfl, hc1, hc2, hcells⟩ := HF.out.at k hlt
        obtain ⟨⟨what, c, bit, e⟩, hx2⟩ : ∃ x : Ac, x = l[k] := ⟨_, rfl⟩
        rw [← hx2] at hcells hx
        obtain ⟨v1, v2, v3, v4⟩ := hx
        simp only [] at v1 v2 v3 v4 hcells
        obtain ⟨g0, k0, k1, k2, k3⟩ := hcells wo R1.out.only
        have HC := Lib.hid hcells
        clear hcells hx2
        go_upto_block 2 with fail
        go_cut [10, 12] (fun ev fv wx => ∃ (r : Int) (o' : Ob) (L' : List Nat), ev = .int .i64 r ∧ fv = .int .i64 r ∧ MS w wx t u u15 u16 bw bs L' L' o' o' ∧ o'.d + L'.length ≤ 40 * k + 60)
        case first =>
          by_cases h5 : what % 8 = 5
          · as_aux_lemma =>
              have t5 : ((what : Int) % 8 == 5) = true := by rw [beq_iff_eq]; omega
              have e5 := Ob.bins_d R1.out.ok (three c bit)
              have e6 : (three c bit).length = 3 := rfl
              go_wp2_with fail
              -- long
              go_region_held3 (fun w' => g < w'.heap.size ∧ w'.cell? ⟨g, off + k * 4, none⟩ = some (.int .u8 what) ∧ w'.cell? ⟨g, off + k * 4 + 1, none⟩ = some (.int .i64 c) ∧ w'.cell? ⟨g, off + k * 4 + 2, none⟩ = some (.int .u8 bit) ∧ w'.cell? ⟨g, off + k * 4 + 3, none⟩ = some (.bool e)) (first | exact HC.out _ R1.out.only.drew | exact HC.out _ (R1.out.only.trans O1.out (by simp)) | exact HC.out _ Y1.out.only | exact HC.out _ (Y1.out.only.trans O2.out (by simp)) | exact HC.out _ Y2.out.only) (first
                | (have _q := B2; go_at_call 33; refine (Y1.out.binsR O2.out B2.out (by simpa using G2) (by omega) (by omega)).mono ?_; rintro en w9 ⟨rfl, p1⟩; have Y2 := Lib.hid p1; clear p1)
                | (have _q := Y1; go_at_call 32; refine (three_any what bit c e).mono ?_; rintro en w8 ⟨g2, rfl, G2, p1, p2⟩; have B2 := Lib.hid p1; have O2 := Lib.hid (show Only [] w7 w8 from ⟨p2.os, p2.tape, p2.output, p2.size, p2.block⟩); clear p1 p2)
                | (have _q := B1; go_at_call 24; refine (R1.out.binsP O1.out B1.out (by simpa using G1) (by omega) (by omega)).mono ?_; rintro en w7 ⟨rfl, p1⟩; have Y1 := Lib.hid p1; clear p1)
                | (go_at_call 32; refine (three_any what bit c e).mono ?_; rintro en w6 ⟨g1, rfl, G1, p1, p2⟩; have B1 := Lib.hid p1; have O1 := Lib.hid (show Only [] wo w6 from ⟨p2.os, p2.tape, p2.output, p2.size, p2.block⟩); clear p1 p2))
              all_goals
                go_wp2_with fail
                go_meet
                exact ⟨_, (o.bins (three c bit)).2, L, rfl, rfl, Y2.out, by omega⟩
              -- end
          · have t5 : ((what : Int) % 8 == 5) = false := by rw [beq_eq_false_iff_ne]; omega
            by_cases h6 : what % 8 = 6
            · as_aux_lemma =>
                have t6 : ((what : Int) % 8 == 6) = true := by rw [beq_iff_eq]; omega
                have e5 := Ob.stop0_d R1.out.ok
                go_wp2_with fail
                refine (R1.out.stopP false (by omega)).mono ?_
                rintro en w6 ⟨rfl, p1⟩
                rw [show L ++ Ob.outs o false = L from List.append_nil _] at p1
                have Y1 := Lib.hid p1
                clear p1
                go_wp2_with fail
                refine (Y1.out.stopR false (by omega)).mono ?_
                rintro en w7 ⟨rfl, p1⟩
                rw [show L ++ Ob.outs o false = L from List.append_nil _] at p1
                have Y2 := Lib.hid p1
                clear p1
                go_wp2_with fail
                go_meet
                exact ⟨_, (Ob.stop o false).2, L, rfl, rfl, Y2.out, by show o.stop0.2.d + _ ≤ _; omega⟩
            · have t6 : ((what : Int) % 8 == 6) = false := by rw [beq_eq_false_iff_ne]; omega
              by_cases h7 : what % 8 = 7
              · as_aux_lemma =>
                  have t7 : ((what : Int) % 8 == 7) = true := by rw [beq_iff_eq]; omega
                  have e5 := Ob.stop_sum R1.out.ok e L
                  go_wp2_with fail
                  -- long
                  go_region_held3 (fun w' => g < w'.heap.size ∧ w'.cell? ⟨g, off + k * 4, none⟩ = some (.int .u8 what) ∧ w'.cell? ⟨g, off + k * 4 + 1, none⟩ = some (.int .i64 c) ∧ w'.cell? ⟨g, off + k * 4 + 2, none⟩ = some (.int .u8 bit) ∧ w'.cell? ⟨g, off + k * 4 + 3, none⟩ = some (.bool e)) (first | exact HC.out _ R1.out.only.drew | exact HC.out _ Y1.out.only | exact HC.out _ Y2.out.only) (first
                  | (have _q := Y1; go_at_call 34; (first | refine (Y1.out.stopR e (by omega)).mono ?_ | refine (Y1.out.drew.stopR e (by omega)).mono ?_); rintro en w9 ⟨rfl, p1⟩; have Y2 := Lib.hid p1; clear p1)
                  | (go_at_call 25; (first | refine (R1.out.stopP e (by omega)).mono ?_ | refine (R1.out.drew.stopP e (by omega)).mono ?_); rintro en w7 ⟨rfl, p1⟩; have Y1 := Lib.hid p1; clear p1))
                  all_goals
                    go_wp2_with fail
                    go_meet
                    exact ⟨_, (Ob.stop o e).2, L ++ Ob.outs o e, rfl, rfl, Y2.out, by omega⟩
                  -- end
              · as_aux_lemma =>
                  have t7 : ((what : Int) % 8 == 7) = false := by rw [beq_eq_false_iff_ne]; omega
                  have e5 := Ob.put_d R1.out.ok (c, bit)
                  go_wp2_with fail
                  -- long
                  go_region_held3 (fun w' => g < w'.heap.size ∧ w'.cell? ⟨g, off + k * 4, none⟩ = some (.int .u8 what) ∧ w'.cell? ⟨g, off + k * 4 + 1, none⟩ = some (.int .i64 c) ∧ w'.cell? ⟨g, off + k * 4 + 2, none⟩ = some (.int .u8 bit) ∧ w'.cell? ⟨g, off + k * 4 + 3, none⟩ = some (.bool e)) (first | exact HC.out _ R1.out.only.drew | exact HC.out _ Y1.out.only | exact HC.out _ Y2.out.only) (first
                  | (have _q := Y1; go_at_call 35; (first | refine (Y1.out.putR c bit (by omega)).mono ?_ | refine (Y1.out.drew.putR c bit (by omega)).mono ?_); rintro en w9 ⟨rfl, p1⟩; have Y2 := Lib.hid p1; clear p1)
                  | (go_at_call 23; (first | refine (R1.out.putP c bit (by omega)).mono ?_ | refine (R1.out.drew.putP c bit (by omega)).mono ?_); rintro en w7 ⟨rfl, p1⟩; have Y1 := Lib.hid p1; clear p1))
                  all_goals
                    go_wp2_with fail
                    go_meet
                    exact ⟨_, (o.put (c, bit)).2, L, rfl, rfl, Y2.out, by omega⟩
                  -- end
        case rest =>
          clear R1 R2 m3 g0 k0 k1 k2 k3 v1 v2 v3 v4
          obtain ⟨r, o', L', rfl, rfl, m1, m2⟩ := hcut
          obtain ⟨F', hW'⟩ := m1.wr
          have hL' : L'.length ≤ 1000000 := by omega
          have hb := fun (W : World) (ho : Only [] wc W) => bits_any (hW'.only ho (by simp) (by simp)) (by omega : L'.length ≤ 1099511627776)
          have hln := fun (W : World) (ho : Only [] wc W) => len_only (hW'.only ho (by simp) (by simp)) (by omega : L'.length ≤ 1099511627776)
          have hsc := fun (W : World) (ho : Only [] wc W) => ((m1.next ho).sc).1
          have hsz := txt_size L'
          obtain ⟨t1, ht1⟩ : ∃ z, z = txt L' := ⟨_, rfl⟩
          rw [← ht1] at hb hsc hsz
          have HB := Lib.hid hb
          have HL := Lib.hid hln
          have HS := Lib.hid hsc
          have HT := Lib.hid ht1
          have S1 := Lib.hid m1
          have c0 := hsc wc (Only.refl _ _)
          have hbs := S1.out.sc.lt
          clear hb hln hsc ht1 m1 hW'
          go_upto_region 23 with fail
          go_cut [159] (fun c wx => c = .bool false ∧ MS w wx t u u15 u16 bw bs L' L' o' o')
          case first =>
            as_aux_lemma =>
              -- long
              go_region_held3 (fun w' => w'.cell? ⟨bs, 0, none⟩ = some (.string t1)) (first | exact HS.out _ (Only.refl [] wc).drew | exact HS.out _ Z1.out | exact HS.out _ Z2.out) (first
                | (have _q := Z1; go_at_call 26; refine (HL.out _ (by first | exact Z1.out | exact Z1.out.drew)).mono ?_; rintro en w9 ⟨rfl, p1⟩; have Z2 := Lib.hid (Z1.out.trans (show Only [] w8 w9 from ⟨p1.os, p1.tape, p1.output, p1.size, p1.block⟩) (by simp)); clear p1)
                | (go_at_call 27; refine (HB.out _ (by first | exact Only.refl _ _ | exact (Only.refl _ _).drew)).mono ?_; rintro en w8 ⟨rfl, p1⟩; have Z1 := Lib.hid (show Only [] wc w8 from ⟨p1.os, p1.tape, p1.output, p1.size, p1.block⟩); clear p1))
              all_goals
                go_wp2_with fail
                go_meet
                exact ⟨rfl, S1.out.next (by first | exact Z2.out | exact Z2.out.drew)⟩
              -- end
          case rest =>
            obtain ⟨rfl, m1⟩ := hcut
            have S2 := Lib.hid m1
            clear m1 S1 HB HL HS HT c0 hbs hsz
            rcases o' with T | s | T
            · as_aux_lemma =>
                obtain rfl := S2.out.noY
                go_wp2_with fail
                go_roundw
                case rel => exact ⟨k + 1, .no T, L', _, _, rfl, rfl, by omega, by omega, by go_num, S2.out, by simp, by omega⟩
                case measure => simp [intOf]; omega
            · as_aux_lemma =>
                obtain ⟨b, rfl, hb1, hb2⟩ := S2.out.onY
                go_wp2_with fail
                go_roundw
                case rel => exact ⟨k + 1, .on s, L', _, _, rfl, rfl, by omega, by omega, by go_num, S2.out, by simp, by omega⟩
                case measure => simp [intOf]; omega
            · as_aux_lemma =>
                obtain ⟨b, rfl, hb1, hb2⟩ := S2.out.overY
                go_wp2_with fail
                go_loopg [] ((8 - L'.length % 8) % 8) (fun q wr => ∃ L : List Nat, q = (8 - L.length % 8) % 8 ∧ L.length + q ≤ 40 * k + 67 ∧ MS w wr t u u15 (pt b) bw bs L L (.over T) (.over T))
                case atStart => exact ⟨L', rfl, by omega, S2.out⟩
                case round =>
                  obtain ⟨L, hq, hqL, hM⟩ := hrel
                  have V1 := Lib.hid hM
                  clear hM S2 hb1 hb2
                  obtain ⟨F1, hW1⟩ := V1.out.wr
                  have hlen := len_only hW1 (by omega)
                  have HLn := Lib.hid hlen
                  clear hlen hW1
                  go_wp2_with fail
                  refine HLn.out.mono ?_
                  rintro en w8 ⟨rfl, p1⟩
                  have V2 := Lib.hid (V1.out.next p1)
                  clear p1 V1 HLn
                  by_cases h8 : L.length % 8 = 0
                  · have t8 : ((L.length : Int) % 8 != 0) = false := by simp; omega
                    have hnew : (Ob.over T).new L.length = (0, .on ⟨T, E.ini⟩) := by unfold Ob.new; simp only [Ob.tab]; rw [if_pos h8]
                    have HN := Lib.hid hnew
                    clear hnew
                    go_wp2_with fail
                    have hp := V2.out.putP 0 0 (Nat.zero_le _)
                    rw [show (Ob.over T).put (0, 0) = (8, Ob.over T) from rfl] at hp
                    refine hp.mono ?_
                    clear hp
                    rintro en w9 ⟨rfl, p1⟩
                    have V3 := Lib.hid p1
                    clear p1 V2
                    go_wp2_with fail
                    have hp := V3.out.stopP true (by simp only [Ob.d]; omega)
                    rw [show Ob.stop (Ob.over T) true = (8, Ob.over T) from rfl, show L ++ Ob.outs (Ob.over T) true = L from List.append_nil _] at hp
                    refine hp.mono ?_
                    clear hp
                    rintro en w10 ⟨rfl, p1⟩
                    have V4 := Lib.hid p1
                    clear p1 V3
                    go_wp2_with fail
                    have hp := V4.out.binsP (Only.refl _ _) (no_bins w10) (by simp) (by simp) (Nat.zero_le _)
                    rw [show (Ob.over T).bins [] = (8, Ob.over T) from rfl] at hp
                    refine hp.mono ?_
                    clear hp
                    rintro en w11 ⟨rfl, p1⟩
                    have V5 := Lib.hid p1
                    clear p1 V4
                    go_wp2_with fail
                    have hp := V5.out.newP (by omega)
                    rw [HN.out] at hp
                    refine hp.mono ?_
                    clear hp
                    rintro en w12 ⟨x1, rfl, p1⟩
                    have V6 := Lib.hid p1
                    clear p1 V5
                    go_wp2_with fail
                    have hp := V6.out.newR
                    rw [HN.out] at hp
                    refine hp.mono ?_
                    clear hp
                    rintro en w13 ⟨y1, rfl, p1⟩
                    have V7 := Lib.hid p1
                    clear p1 V6
                    obtain ⟨bx, rfl⟩ := V7.out.onX
                    go_wp2_with fail
                    go_roundw
                    case rel => exact ⟨k + 1, .on ⟨T, E.ini⟩, L, _, _, rfl, rfl, by omega, by omega, by go_num, V7.out, by simp, by show 0 + _ ≤ _; omega⟩
                    case measure => simp [intOf]; omega
                  · have t8 : ((L.length : Int) % 8 != 0) = true := by simp; omega
                    go_wp2_with fail
                    refine (V2.out.bitP (by omega)).mono ?_
                    rintro en w9 ⟨rfl, p1⟩
                    have V3 := Lib.hid p1
                    clear p1 V2
                    obtain ⟨c0, f0⟩ := V3.out.sc
                    have hbs := V3.out.sc.lt
                    have hadd := fun W => run_txt_add (P := Try.prog) W L [0] (by simp; omega)
                    rw [show txt [0] = ⟨#[48]⟩ from rfl] at hadd
                    obtain ⟨t0, h0⟩ : ∃ t, t = txt L := ⟨_, rfl⟩
                    obtain ⟨t1, h1⟩ : ∃ t, t = txt (L ++ [0]) := ⟨_, rfl⟩
                    rw [← h0, ← h1] at hadd
                    rw [← h0] at c0
                    have T1 := Lib.hid h1
                    clear h0 h1
                    go_wp2_with fail
                    go_roundg (gk - 1)
                    case measure => omega
                    case rel =>
                      refine ⟨L ++ [0], by rw [List.length_append, List.length_singleton]; omega, by rw [List.length_append, List.length_singleton]; omega, ?_⟩
                      rw [T1.out]
                      exact V3.out.store (L ++ [0])
      · as_aux_lemma =>
          obtain rfl : k = 150 := by omega
          clear HF HW HM
          rcases R1.out.tabs with ⟨rfl, rfl, _⟩ | ⟨T, bt, ru, gt, _, rfl, rfl, k1, k2⟩
          · go_wp2_with fail
            go_loopw [18] (fun i wr => i = .int .i64 0 ∧ Only [] wo wr) (fun _ _ => 0)
            case atStart => exact ⟨rfl, Only.refl _ _⟩
            case round =>
              obtain ⟨rfl, p1⟩ := hrel
              have O1 := Lib.hid p1
              clear p1
              go_wp2_with fail
              refine (alive_any _).mono ?_
              rintro en w12 ⟨rfl, q1⟩
              have Q := Lib.hid ((R1.out.only.trans O1.out (by simp)).trans q1 (by simp))
              clear q1
              go_wp2_with fail
              go_returns
              exact ⟨rfl, Q.out⟩
          · have K1 := Lib.hid k1
            have K2 := Lib.hid k2
            clear k1 k2
            go_wp2_with fail
            go_loopw [18] (fun i wr => ∃ j : Nat, j ≤ 286 ∧ i = .int .i64 j ∧ Only [] wo wr) (fun i _ => 286 - (intOf i).toNat)
            case atStart => exact ⟨0, Nat.zero_le _, rfl, Only.refl _ _⟩
            case round =>
              obtain ⟨j, hj, rfl, p1⟩ := hrel
              have O1 := Lib.hid p1
              clear p1
              obtain ⟨wp, rfl⟩ : ∃ wp : World, wp = wr := ⟨_, rfl⟩
              by_cases hjl : j < 286
              · go_wp2_with fail
                refine (state_any (K1.out.only O1.out (by simp)) j hjl).mono ?_
                rintro en w12 ⟨rfl, c1, rfl⟩
                go_wp2_with fail
                refine (rstate_any (b := ru) (g := gt) (T := T) (K2.out.only ((O1.out.alloc _).alloc _) (by simp) (by simp)) j hjl).mono ?_
                rintro en w12 ⟨rfl, c2, rfl⟩
                go_wp2_with fail
                go_roundw
                case rel => exact ⟨j + 1, by omega, by go_num, (((O1.out.alloc _).alloc _).alloc _).alloc _⟩
                case measure => simp [intOf]; omega
              · obtain rfl : j = 286 := by omega
                go_wp2_with fail
                refine (alive_any _).mono ?_
                rintro en w12 ⟨rfl, q1⟩
                have Q := Lib.hid ((R1.out.only.trans O1.out (by simp)).trans q1 (by simp))
                clear q1
                go_wp2_with fail
                go_returns
                exact ⟨rfl, Q.out⟩
    · as_aux_lemma =>
        obtain rfl : k = l.length := by omega
        clear HF HW HM
        rcases R1.out.tabs with ⟨rfl, rfl, _⟩ | ⟨T, bt, ru, gt, _, rfl, rfl, k1, k2⟩
        · go_wp2_with fail
          go_loopw [18] (fun i wr => i = .int .i64 0 ∧ Only [] wo wr) (fun _ _ => 0)
          case atStart => exact ⟨rfl, Only.refl _ _⟩
          case round =>
            obtain ⟨rfl, p1⟩ := hrel
            have O1 := Lib.hid p1
            clear p1
            go_wp2_with fail
            refine (alive_any _).mono ?_
            rintro en w12 ⟨rfl, q1⟩
            have Q := Lib.hid ((R1.out.only.trans O1.out (by simp)).trans q1 (by simp))
            clear q1
            go_wp2_with fail
            go_returns
            exact ⟨rfl, Q.out⟩
        · have K1 := Lib.hid k1
          have K2 := Lib.hid k2
          clear k1 k2
          go_wp2_with fail
          go_loopw [18] (fun i wr => ∃ j : Nat, j ≤ 286 ∧ i = .int .i64 j ∧ Only [] wo wr) (fun i _ => 286 - (intOf i).toNat)
          case atStart => exact ⟨0, Nat.zero_le _, rfl, Only.refl _ _⟩
          case round =>
            obtain ⟨j, hj, rfl, p1⟩ := hrel
            have O1 := Lib.hid p1
            clear p1
            obtain ⟨wp, rfl⟩ : ∃ wp : World, wp = wr := ⟨_, rfl⟩
            by_cases hjl : j < 286
            · go_wp2_with fail
              refine (state_any (K1.out.only O1.out (by simp)) j hjl).mono ?_
              rintro en w12 ⟨rfl, c1, rfl⟩
              go_wp2_with fail
              refine (rstate_any (b := ru) (g := gt) (T := T) (K2.out.only ((O1.out.alloc _).alloc _) (by simp) (by simp)) j hjl).mono ?_
              rintro en w12 ⟨rfl, c2, rfl⟩
              go_wp2_with fail
              go_roundw
              case rel => exact ⟨j + 1, by omega, by go_num, (((O1.out.alloc _).alloc _).alloc _).alloc _⟩
              case measure => simp [intOf]; omega
            · obtain rfl : j = 286 := by omega
              go_wp2_with fail
              refine (alive_any _).mono ?_
              rintro en w12 ⟨rfl, q1⟩
              have Q := Lib.hid ((R1.out.only.trans O1.out (by simp)).trans q1 (by simp))
              clear q1
              go_wp2_with fail
              go_returns
              exact ⟨rfl, Q.out⟩

end Go.Proofs.Ytbpdhfenomebpaa
