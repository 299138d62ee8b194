/-
  The reference's encoder: Put, New, Stop.
-/
import Derived.Test.YtbpdhfenomebpaaRBins
import Derived.Test.YtbpdhfenomebpaaWriter
namespace Go.Proofs.Ytbpdhfenomebpaa
open Go.RowKit Sp

theorem rput_of {w : World} {p : Value} {c : Int} {bit : Nat} {r : Int} {R : World → Prop}
    (h : Calls Try.prog 33 #[p, .slice (some ⟨w.heap.size + 1, 0, none⟩) 1 1] ((w.alloc (.cells #[.int .i64 c, .int .u8 bit] 25)).alloc (.cells #[.int .i64 c, .int .u8 bit] 25)) fun en w' => en = .returned (.int .i64 r) ∧ R w') :
    Calls Try.prog 35 #[p, .agg #[.int .i64 c, .int .u8 bit]] w fun en w' => en = .returned (.int .i64 r) ∧ R w' := by
  have H := Lib.hid h
  clear h
  go_enter Try.func35, Try.ntmps35
  go_wp2_with fail
  refine H.out.mono ?_
  rintro en w' ⟨rfl, hR⟩
  have HR := Lib.hid hR
  clear hR
  go_wp2_with fail
  go_returns
  exact ⟨rfl, HR.out⟩

theorem rput_ok {w : World} {b bs bt gt g : Nat} {s : TE} (h : RCd w b bs bt gt g s) (x : Bn) (hv : x.ok) (hd : s.e.d ≤ 700000000000) :
    Calls Try.prog 35 #[.pointer (some ⟨b, 0, none⟩), .agg #[.int .i64 x.1, .int .u8 x.2]] w fun en w' => en = .returned (.int .i64 0) ∧
      ∃ g', RCd w' b bs bt gt g' (s.bin x) ∧ (g' = g ∨ w.heap.size ≤ g') ∧ Only [gt, b, g] w w' := by
  have hA : Only [] w ((w.alloc (.cells #[.int .i64 x.1, .int .u8 x.2] 25)).alloc (.cells #[.int .i64 x.1, .int .u8 x.2] 25)) := ((Only.refl [] w).alloc _).alloc _
  have hb := h.enc.lt
  have hg := h.enc.glt
  have ht := h.tab.lt
  refine rput_of ((rbins_ok (h.only hA (by simp)) (one_bin w x.1 x.2) ?_ ?_ ?_).mono ?_)
  · simp; omega
  · intro y hy
    simp only [List.mem_singleton] at hy
    subst hy
    exact hv
  · simp; omega
  · rintro en w' ⟨rfl, g', r1, r2, r3⟩
    refine ⟨rfl, g', r1, ?_, (hA.mono (T := [gt, b, g]) (by simp)).trans r3 (fun y hy => .inl hy)⟩
    rcases r2 with e | e
    · exact .inl e
    · right; simp at e; omega

theorem rput_bad {w : World} {b : Nat} (c5 : w.cell? ⟨b, 4, none⟩ = some (.bool false)) (x : Bn) (hv : ¬ x.ok) :
    Calls Try.prog 35 #[.pointer (some ⟨b, 0, none⟩), .agg #[.int .i64 x.1, .int .u8 x.2]] w fun en w' => en = .returned (.int .i64 3) ∧ Only [] w w' := by
  have hb : b < w.heap.size := World.block_lt_of_cell? w _ c5
  refine rput_of ((rbins_bad (b := b) ?_ (one_bin w x.1 x.2) ⟨x, by simp, hv⟩ (by simp)).mono ?_)
  · rw [World.cell?_alloc_lt _ _ _ (by simp; omega), World.cell?_alloc_lt _ _ _ hb]
    exact c5
  · rintro en w' ⟨rfl, r⟩
    exact ⟨rfl, (((Only.refl [] w).alloc _).alloc _).trans r (by simp)⟩

theorem rput_nil {w : World} (c : Int) (bit : Nat) :
    Calls Try.prog 35 #[.pointer none, .agg #[.int .i64 c, .int .u8 bit]] w fun en w' => en = .returned (.int .i64 1) ∧ Only [] w w' :=
  rput_of (rbins_nil.mono fun _ _ h => ⟨h.1, (((Only.refl [] w).alloc _).alloc _).trans h.2 (by simp)⟩)

set_option maxRecDepth 100000 in
set_option maxHeartbeats 1600000 in
theorem renew_ok {w : World} {bs bt gt : Nat} {T : Nat → St} {t : ByteArray} (hT : RTab w bt gt T) (hne : bt ≠ gt) (hs : w.cell? ⟨bs, 0, none⟩ = some (.string t)) (h8 : t.size % 8 = 0) :
    Calls Try.prog 31 #[.pointer (some ⟨bs, 0, none⟩), .pointer (some ⟨bt, 0, none⟩)] w fun en w' => ∃ b g, en = .returned (.tuple #[.pointer (some ⟨b, 0, none⟩), .int .i64 0]) ∧
      w.heap.size ≤ b ∧ w.heap.size ≤ g ∧ RCd w' b bs bt gt g ⟨T, E.ini⟩ ∧ Only [] w w' := by
  have t1 : ((t.size : Int) % 8 != 0) = false := by simp; omega
  have hmk : ∀ w, (Instr.makeSlice 57 (.int .i64 9) (.int .i64 9)).run Try.prog w = .ok (.slice (some ⟨w.heap.size, 0, none⟩) 9 9) (w.alloc (.cells #[.int .u8 0, .int .u8 0, .int .u8 0, .int .u8 0, .int .u8 0, .int .u8 0, .int .u8 0, .int .u8 0, .int .u8 0] 5)) := fun _ => by kernel_rfl
  have HT := Lib.hid hT
  have hl := hT.lt
  have H5 := Lib.hid hne
  clear hT hne
  go_enter Try.func31, Try.ntmps31
  go_wp2_with fail
  go_returns
  have l1 := hl.1
  have l2 := hl.2
  have hA : Only [] w ((w.alloc (.cells #[.int .u8 0, .int .u8 0, .int .u8 0, .int .u8 0, .int .u8 0, .int .u8 0, .int .u8 0, .int .u8 0, .int .u8 0] 5)).alloc
    (.cells #[.pointer (some ⟨bs, 0, none⟩), .pointer (some ⟨bt, 0, none⟩), .slice (some ⟨w.heap.size, 0, none⟩) 9 9, .int .i64 510, .bool false] 59)) := ((Only.refl [] w).alloc _).alloc _
  refine ⟨w.heap.size + 1, w.heap.size, rfl, by omega, Nat.le_refl _, ⟨⟨9, 9, rfl, Blk.new' _ _ (by simp), ?_⟩, HT.out.only hA (by simp) (by simp), ⟨E.ini_ok, HT.out.ok⟩, by omega, by omega, by omega, by omega, H5.out⟩, hA⟩
  have hS : Sl (w.alloc (.cells #[.int .u8 0, .int .u8 0, .int .u8 0, .int .u8 0, .int .u8 0, .int .u8 0, .int .u8 0, .int .u8 0, .int .u8 0] 5)) 5 1 (.slice (some ⟨w.heap.size, 0, none⟩) 9 9) 9 ((bitsOf 9 0).map byteV) :=
    ⟨rfl, .inr ⟨w.heap.size, 9, #[.int .u8 0, .int .u8 0, .int .u8 0, .int .u8 0, .int .u8 0, .int .u8 0, .int .u8 0, .int .u8 0, .int .u8 0], rfl, Nat.zero_le _, Blk.new _ _ _, Nat.le_refl _, by decide, rfl, rfl⟩⟩
  exact hS.alloc _

theorem renew_state {w : World} {bs bt : Nat} {t : ByteArray} (hs : w.cell? ⟨bs, 0, none⟩ = some (.string t)) (h8 : t.size % 8 ≠ 0) :
    Calls Try.prog 31 #[.pointer (some ⟨bs, 0, none⟩), .pointer (some ⟨bt, 0, none⟩)] w fun en w' => en = .returned (.tuple #[.pointer none, .int .i64 8]) ∧ Only [] w w' := by
  have t1 : ((t.size : Int) % 8 != 0) = true := by simp; omega
  go_enter Try.func31, Try.ntmps31
  go_wp2_with fail
  go_returns
  exact ⟨rfl, Only.refl _ _⟩

theorem renew_nil {w : World} {bs : Nat} :
    Calls Try.prog 31 #[.pointer (some ⟨bs, 0, none⟩), .pointer none] w fun en w' => en = .returned (.tuple #[.pointer none, .int .i64 1]) ∧ Only [] w w' := by
  go_enter Try.func31, Try.ntmps31
  go_wp2_with fail
  go_returns
  exact ⟨rfl, Only.refl _ _⟩

theorem rstop_nil {w : World} {x : Bool} :
    Calls Try.prog 34 #[.pointer none, .bool x] w fun en w' => en = .returned (.int .i64 1) ∧ Only [] w w' := by
  go_enter Try.func34, Try.ntmps34
  go_wp2_with fail
  go_returns
  exact ⟨rfl, Only.refl _ _⟩

theorem rstop_false {w : World} {b bs bt gt g : Nat} {s : TE} (h : RCd w b bs bt gt g s) (hd : s.e.d ≤ 900000000000) :
    Calls Try.prog 34 #[.pointer (some ⟨b, 0, none⟩), .bool false] w fun en w' => en = .returned (.int .i64 0) ∧
      ∃ g', RCd w' b bs bt gt g' ⟨s.T, s.e.stop0⟩ ∧ (g' = g ∨ w.heap.size ≤ g') ∧ Only [b, g] w w' := by
  obtain ⟨ok1, ok2, ok3⟩ := h.ok.e
  obtain ⟨_, _, c3, c4, hfr⟩ := h.enc.cells
  have f3 := hfr 3
  have hs := Lib.hid (h.enc.setR (s.e.r - 2))
  have hcast : ((s.e.r - 2 : Nat) : Int) = (s.e.r : Int) - 2 := by omega
  rw [hcast] at hs
  have HC := Lib.hid h
  clear hcast h hfr
  go_enter Try.func34, Try.ntmps34
  go_wp2_with fail
  refine (rrenorm_any hs.out (by simp only []; omega) (by simp only []; omega) (by simp only []; omega)).mono ?_
  rintro en w2 ⟨rfl, g2, r1, r2, r3⟩
  have R1 := Lib.hid r1
  have R2 := Lib.hid r2
  have R3 := Lib.hid (((Only.refl [b, g] w).setCell ⟨b, 3, none⟩ (by simp) _).trans r3 (fun x hx => .inl hx))
  clear r1 r2 r3
  go_wp2_with fail
  go_returns
  obtain ⟨hE, hT, hok, h1, h2, h3, h4, h5⟩ := HC.out
  have l1 := hT.lt
  have hr : g2 = g ∨ w.heap.size ≤ g2 := by
    rcases R2.out with q | q
    · exact .inl q
    · right; simpa using q
  exact ⟨rfl, g2, ⟨R1.out, hT.only R3.out (by simp; exact ⟨h1, h2⟩) (by simp; exact ⟨h3, h4⟩), TE.stop_ok (s := s) hok, h1, by omega, h3, by omega, h5⟩, hr, R3.out⟩

set_option maxRecDepth 100000 in
set_option maxHeartbeats 3200000 in
theorem rstop_true {w : World} {b bs bt gt g : Nat} {s : TE} {L : List Nat} (h : RCd w b bs bt gt g s) (hd : s.e.d + L.length ≤ 900000000000) (hs : w.cell? ⟨bs, 0, none⟩ = some (.string (txt L))) (hf : w.frozen? ⟨bs, 0, none⟩ = false)
    (hbs : bs ∉ [b, bt, gt, g]) :
    Calls Try.prog 34 #[.pointer (some ⟨b, 0, none⟩), .bool true] w fun en w' => en = .returned (.int .i64 0) ∧
      w'.cell? ⟨bs, 0, none⟩ = some (.string (txt (L ++ s.e.out))) ∧ w'.frozen? ⟨bs, 0, none⟩ = false ∧ w'.cell? ⟨b, 4, none⟩ = some (.bool true) ∧ RTab w' bt gt s.T ∧ Only [b, g, bs] w w' := by
  obtain ⟨ok1, ok2, ok3⟩ := h.ok.e
  obtain ⟨_, _, c3, c4, hfr⟩ := h.enc.cells
  have f3 := hfr 3
  have hsx := Lib.hid (h.enc.setR (s.e.r - 2))
  have hcast : ((s.e.r - 2 : Nat) : Int) = (s.e.r : Int) - 2 := by omega
  have HC := Lib.hid h
  have HCA := Lib.hid hcast
  have HS := Lib.hid hs
  have HF := Lib.hid hf
  have HB := Lib.hid hbs
  clear hcast h hfr hs hf hbs
  go_enter Try.func34, Try.ntmps34
  go_wp2_with fail
  rw [← HCA.out]
  refine (radd_any hsx.out (by simp only []; omega) (s.e.r - 2) (by omega) (by simp only []; exact ok_fits s.e.d _ (by omega))).mono ?_
  rintro en w2 ⟨rfl, r1, r2⟩
  simp only [] at r1
  have R3 := Lib.hid (((Only.refl [b, g] w).setCell ⟨b, 3, none⟩ (by simp) _).trans r2 (fun x hx => .inl (by simp at hx; simp [hx])))
  obtain ⟨n, cap, hn, hblk, hsl⟩ := r1.here
  simp only [] at hn hblk hsl
  obtain ⟨m, rfl⟩ : ∃ m, n = m + 1 := ⟨n - 1, by omega⟩
  have b2 : w2.cell? ⟨b, 2, none⟩ = some (.slice (some ⟨g, 0, none⟩) (m + 1) cap) := (hblk.cell 2).trans rfl
  have hcap : m + 1 ≤ cap := by obtain ⟨_, _, q, _⟩ := hsl.row; exact q
  have hnn : m ≤ 900000000009 := by omega
  have cg : w2.cell? ⟨g, m, none⟩ = some (.int .u8 (((s.e.c + (s.e.r - 2)) % 2 : Nat))) := by
    rw [hsl.cells _ (by omega), List.getElem?_map]
    simp only [bitsOf]
    rw [List.getElem?_append_right (by simp), bitsOf_length, Nat.sub_self]
    rfl
  have fg := hsl.free m
  have hgl := r1.glt
  have hout : ((bitsOf (m + 1) (s.e.c + (s.e.r - 2))).map byteV).set m (.int .u8 1) = s.e.out.map byteV := by
    unfold E.out
    rw [← hn]
    simp only [bitsOf]
    rw [List.map_append, List.map_append, List.set_append_right _ _ (by simp), List.length_map, bitsOf_length, Nat.sub_self]
    unfold odd
    rw [show ((s.e.c + (s.e.r - 2)) / 2 * 2 + 1) / 2 = (s.e.c + (s.e.r - 2)) / 2 by omega, show ((s.e.c + (s.e.r - 2)) / 2 * 2 + 1) % 2 = 1 by omega]
    rfl
  have hset := hsl.set m (.int .u8 1)
  rw [hout] at hset
  have hol : s.e.out.length = m + 1 := by unfold E.out; rw [bitsOf_length]; omega
  have K1 := Lib.hid (hblk.other ⟨g, m, none⟩ (by intro q; exact HC.out.enc.ne q.symm) (.int .u8 1))
  have K2 := Lib.hid hset
  have K3 := Lib.hid hol
  have K4 := Lib.hid (R3.out.setCell ⟨g, m, none⟩ (by simp) (.int .u8 1))
  clear hblk hsl r1 r2 hn hout hset hol
  go_wp2_with fail
  go_upto_region 10 with fail
  go_cut [] (fun wx => Blk wx b #[.pointer (some ⟨bs, 0, none⟩), .pointer (some ⟨bt, 0, none⟩), .slice (some ⟨g, 0, none⟩) (m + 1) cap, .int .i64 ((s.e.r - 2 : Nat)), .bool false] 59 ∧ Sl wx 5 1 (.slice (some ⟨g, 0, none⟩) (m + 1) cap) (m + 1) (s.e.out.map byteV) ∧ Only [b, g] w wx)
  case first =>
    go_region
    all_goals
      go_wp2_with fail
      go_meet
      case rel => exact ⟨K1.out.drew, K2.out.drew, K4.out.drew⟩
  case rest =>
    obtain ⟨hB1, hS1, ho⟩ := hcut
    have L1 := Lib.hid hB1
    have L2 := Lib.hid hS1
    have L3 := Lib.hid ho
    clear hB1 hS1 ho
    obtain ⟨C, hC⟩ : ∃ C, C = s.e.out := ⟨_, rfl⟩
    have hCl : C.length = m + 1 := by rw [hC, K3.out]
    have hC1 : ∀ x ∈ C, x ≤ 1 := by rw [hC]; exact bitsOf_le _ _
    rw [← hC] at L2
    have HCC := Lib.hid hC
    obtain ⟨i0, hi, hz0, hz1, hz2⟩ := info_parts info_u8
    have M1 := Lib.hid hCl
    have M2 := Lib.hid hC1
    clear hC hCl hC1 K1 K2 K3 K4 cg fg hgl b2
    obtain ⟨wo, rfl⟩ : ∃ wo : World, wo = wc := ⟨_, rfl⟩
    go_wp2_with fail
    go_loopw [5, 6] (fun o i wr => ∃ (k : Nat) (ov : Value), ov = o ∧ k ≤ m + 1 ∧ i = .int .i64 k ∧ Sl wr 5 1 ov k (((C.map fun x => 48 + x).take k).map byteV) ∧ (∀ q, ov.ownBlock = some q → wo.heap.size ≤ q) ∧ Only [] wo wr) (fun _ i _ => m + 1 - (intOf i).toNat)
    case atStart => exact ⟨0, _, rfl, Nat.zero_le _, rfl, Sl.nil _ _ _, by simp [Value.ownBlock], Only.refl _ _⟩
    case round =>
      obtain ⟨k, ov, rfl, hk, rfl, hS, hO, ho⟩ := hrel
      have P1 := Lib.hid (L1.out.only ho (by simp))
      have P2 := Lib.hid (L2.out.only ho (by simp))
      have P3 := Lib.hid hS
      have P4 := Lib.hid hO
      have P5 := Lib.hid ho
      clear hS hO ho
      have b2 : wr.cell? ⟨b, 2, none⟩ = some (.slice (some ⟨g, 0, none⟩) (m + 1) cap) := (P1.out.cell 2).trans rfl
      by_cases hlt : k < m + 1
      · have hCl := M1.out
        have hx1 := M2.out (C[k]'(by omega)) (List.getElem_mem _)
        have cg : wr.cell? ⟨g, k, none⟩ = some (.int .u8 (C[k]'(by omega))) := by
          rw [P2.out.cells k (by omega), List.getElem?_map, List.getElem?_eq_getElem (by omega)]; rfl
        have htk : ((C.map fun x => 48 + x).take (k + 1)).map byteV = ((C.map fun x => 48 + x).take k).map byteV ++ [.int .u8 (48 + ((C[k]'(by omega) : Nat) : Int))] := by
          rw [List.take_succ_eq_append_getElem (by simp; omega), List.map_append, List.getElem_map]
          simp [byteV]
        obtain ⟨x, hx⟩ : ∃ x, x = C[k]'(by omega) := ⟨_, rfl⟩
        rw [← hx] at hx1 cg htk
        have T1 := Lib.hid htk
        have q4 : k + 1 ≤ maxLen := by unfold maxLen; omega
        have q5 : (k + 1) * 1 ≤ 140737488355328 := by omega
        clear hx htk hCl
        go_wp2_with (
          at_builtin
          refine wpList_append_lies _ rfl (.tmp 51) (.tmp 60) 57 rfl 0 5 i0 (.int .u8 0) 1 1 Try.underlying57 hi hz0 hz1 hz2 rfl (by decide) ov k (((C.map fun x => 48 + x).take k).map byteV) rfl ?_ ⟨_, 0, none⟩ 1 1 [.int .u8 (48 + (x : Int))] rfl rfl ?_ ?_ (by decide) ?_ ?_ (Nat.zero_le _) _ rfl ?_
          · exact P3.out.alloc _
          · exact World.news_of_block (cs := #[_]) (Blk.new' _ _ (by simp))
          · simp [Value.oneCell']
          · exact q4
          · exact q5
          intro ng ncap w1 hown hgrow hat hltn)
        go_roundw
        case rel =>
          refine ⟨k + 1, _, rfl, by omega, by go_num, ?_, ?_, ?_⟩
          · rw [T1.out]
            exact hown
          · intro g' e
            rcases hat with q | q
            · have := P4.out _ q; simp only [Value.ownBlock, Option.some.injEq] at e; omega
            · have := P5.out.size; simp only [Value.ownBlock, Option.some.injEq, World.size_alloc] at e q; omega
          · exact P5.out.trans (Only.appended ((Only.refl [] wr).alloc _) hgrow) (fun x hx => .inr (P4.out x (by simpa using hx)))
        case measure => simp [intOf]; omega
      · obtain rfl : k = m + 1 := by omega
        have hCl := M1.out
        have hfull : (C.map fun x => 48 + x).take (m + 1) = C.map fun x => 48 + x := List.take_of_length_le (by simp; omega)
        have hsl : Sl wr 5 1 ov (C.map fun x => 48 + x).length ((C.map fun x => 48 + x).map byteV) := by
          have := P3.out
          rw [hfull] at this
          rw [List.length_map, hCl]
          exact this
        have hconv : (convert 57 9 ov).run Try.prog wr.drew = .ok (.string (txt C)) wr.drew := run_str_of hsl.drew (by
          intro y hy
          obtain ⟨z, hz, rfl⟩ := List.mem_map.1 hy
          have := M2.out z hz
          omega)
        have hadd := fun W => run_txt_add (P := Try.prog) W L C (by omega)
        obtain ⟨t0, ht0⟩ : ∃ x, x = txt L := ⟨_, rfl⟩
        obtain ⟨t1, ht1⟩ : ∃ x, x = txt C := ⟨_, rfl⟩
        obtain ⟨t2, ht2⟩ : ∃ x, x = txt (L ++ C) := ⟨_, rfl⟩
        rw [← ht0, ← ht1, ← ht2] at hadd
        rw [← ht1] at hconv
        have HT2 := Lib.hid ht2
        clear hsl hfull ht1 ht2 hCl
        have hho := (L3.out.trans P5.out (by simp))
        have hbl := hho.block bs (World.block_lt_of_cell? _ _ HS.out) (fun q => HB.out (by simp at q ⊢; omega))
        have hs0 : wr.cell? ⟨bs, 0, none⟩ = some (.string t0) := by rw [World.cell?_of_block hbl, HS.out, ht0]
        have hf0 : wr.frozen? ⟨bs, 0, none⟩ = false := by rw [World.frozen?_of_block hbl, HF.out]
        have hne2 : b ≠ bs := fun q => HB.out (by simp [q])
        clear hbl
        have b0 : wr.cell? ⟨b, 0, none⟩ = some (.pointer (some ⟨bs, 0, none⟩)) := (P1.out.cell 0).trans rfl
        have b4 : wr.cell? ⟨b, 4, none⟩ = some (.bool false) := (P1.out.cell 4).trans rfl
        have bf4 := P1.out.free 4
        have hne : bs ≠ b := fun q => HB.out (by simp [q])
        have Q1 := Lib.hid hho
        clear hho ht0
        go_wp2_with fail
        go_region
        all_goals
          go_wp2_with fail
          go_returns
          obtain ⟨hE, hT, hok, h1, h2, h3, h4, h5⟩ := HC.out
          have e1 : (wr.setCell ⟨bs, 0, none⟩ (.string t2)).cell? ⟨bs, 0, none⟩ = some (.string t2) := World.cell?_setCell_same _ _ _ hs0
          have e2 : (wr.setCell ⟨bs, 0, none⟩ (.string t2)).cell? ⟨b, 4, none⟩ = some (.bool false) := by rw [World.cell?_setCell_far _ _ _ _ (by simpa using hne)]; exact b4
          have hO := Q1.out.mono (T := [b, g, bs]) (fun x hx => by simp at hx ⊢; omega)
          have hO2 : Only [b, g, bs] w (((wr.setCell ⟨bs, 0, none⟩ (.string t2)).setCell ⟨b, 4, none⟩ (.bool true)).drew) := ((hO.setCell ⟨bs, 0, none⟩ (by simp) _).setCell ⟨b, 4, none⟩ (by simp) _).drew
          refine ⟨rfl, ?_, ?_, ?_, hT.only hO2 ?_ ?_, hO2⟩
          · rw [← HCC.out, ← HT2.out]
            refine (World.cell?_setCell_far _ _ _ _ (by simpa using hne2)).trans e1
          · show ((wr.setCell ⟨bs, 0, none⟩ (.string t2)).setCell ⟨b, 4, none⟩ (.bool true)).frozen? ⟨bs, 0, none⟩ = false
            rw [World.frozen?_setCell, World.frozen?_setCell]
            exact hf0
          · exact World.cell?_setCell_same _ _ _ e2
          · have : bt ≠ bs := fun q => HB.out (by simp [q])
            simp; exact ⟨h1, h2, this⟩
          · have : gt ≠ bs := fun q => HB.out (by simp [q])
            simp; exact ⟨h3, h4, this⟩

end Go.Proofs.Ytbpdhfenomebpaa
