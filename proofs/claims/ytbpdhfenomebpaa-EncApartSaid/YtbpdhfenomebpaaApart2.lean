/-
  EncApart: different bins are written as different bits, and neither is the beginning of the other. No condition.
-/
import Derived.Test.YtbpdhfenomebpaaChain
import Derived.Test.YtbpdhfenomebpaaOpenOne
import Derived.Test.YtbpdhfenomebpaaAlive
namespace Sp

/-- The bin at place i of a sequence. -/
def binAt (ctxs : List Int) (l : List Bool) (i : Nat) : Bn := (if ctxs = [] then (i : Int) else ctxs.getD (i % ctxs.length) 0, if l.getD i false then 1 else 0)

/-- The bins of a sequence. -/
def rawL (ctxs : List Int) (l : List Bool) : List Bn := (List.range (min (l.length + 1) 61)).map (binAt ctxs l)

theorem rawL_len (ctxs : List Int) (l : List Bool) : (rawL ctxs l).length = min (l.length + 1) 61 := by simp [rawL]

theorem rawL_take (ctxs : List Int) (l : List Bool) (k : Nat) (h : k < min (l.length + 1) 61) : (rawL ctxs l).take (k + 1) = (rawL ctxs l).take k ++ [binAt ctxs l k] := by
  rw [List.take_succ_eq_append_getElem (by rw [rawL_len]; exact h)]
  simp [rawL]

theorem fit_rawL_len (ctxs : List Int) (l : List Bool) : (fit (rawL ctxs l)).length = min (l.length + 1) 61 := by
  unfold fit; rw [List.length_map, List.length_take, rawL_len]; omega

theorem fit_rawL_ctx (ctxs : List Int) (l m : List Bool) (i : Nat) (h : i < (fit (rawL ctxs l)).length) (h' : i < (fit (rawL ctxs m)).length) : (fit (rawL ctxs l))[i].1 = (fit (rawL ctxs m))[i].1 := by
  simp [fit, rawL, fitB, binAt]

end Sp
namespace Go.Proofs.Ytbpdhfenomebpaa
open Go.RowKit Sp

theorem binCells_append (l m : List Bn) : binCells (l ++ m) = binCells l ++ binCells m := by simp [binCells]

set_option maxRecDepth 100000 in
set_option maxHeartbeats 20000000 in
theorem list_any {w : World} {Gc Gl : List Nat} {ctxs : List Int} {l : List Bool} {ac al : Option Addr} {cc capl : Nat} {bx : Nat} (hc : OneIn intV w (.slice ac ctxs.length cc) Gc ctxs) (hl : OneIn boolV w (.slice al l.length capl) Gl l)
    (hlc : ctxs.length ≤ 9223372036854775807) (hll : l.length ≤ 9223372036854775807) (hcw : ∀ x ∈ ctxs, -9223372036854775808 ≤ x ∧ x ≤ 9223372036854775807) (hb : w.cell? ⟨bx, 0, none⟩ = some (.slice ac ctxs.length cc)) :
    Calls Try.prog 46 #[.slice al l.length capl, .pointer (some ⟨bx, 0, none⟩)] w fun en w' => ∃ a cap, en = .returned (.slice a (fit (rawL ctxs l)).length cap) ∧ BinsIn w' (.slice a (fit (rawL ctxs l)).length cap) (Value.slice a (fit (rawL ctxs l)).length cap).ownBlock.toList (fit (rawL ctxs l)) ∧ Only [] w w' := by
  obtain ⟨i0, hi, hz0, hz1, hz2⟩ := info_parts info_Bin
  have hbx := World.block_lt_of_cell? w _ hb
  simp only [] at hbx
  have HC := Lib.hid hc
  have HL := Lib.hid hl
  have HW := Lib.hid hcw
  have HB := Lib.hid hb
  clear hc hl hcw hb
  go_enter Try.func46, Try.ntmps46
  go_wp2_with fail
  go_loopw [4, 5] (fun o i wr => ∃ (k : Nat) (ov : Value), ov = o ∧ k ≤ min (l.length + 1) 61 ∧ i = .int .i64 k ∧ Sl wr 25 2 ov k (binCells ((rawL ctxs l).take k)) ∧ (∀ q, ov.ownBlock = some q → w.heap.size ≤ q) ∧ Only [] w wr) (fun _ i _ => 61 - (intOf i).toNat)
  case atStart => exact ⟨0, _, rfl, Nat.zero_le _, rfl, Sl.nil _ _ _, by simp [Value.ownBlock], Only.refl _ _⟩
  case round =>
    obtain ⟨k, ov, rfl, hk, rfl, hS, hO, ho⟩ := hrel
    have D1 := Lib.hid hS
    have D2 := Lib.hid hO
    have D3 := Lib.hid ho
    have hkk : k ≤ l.length + 1 ∧ k ≤ 61 := by omega
    obtain ⟨hk1, hk2⟩ := hkk
    clear hS hO ho hk
    have cb : wr.cell? ⟨bx, 0, none⟩ = some (.slice ac ctxs.length cc) := by rw [World.cell?_of_block (D3.out.block bx hbx (by simp))]; exact HB.out
    have hbx2 : bx < wr.heap.size := Nat.lt_of_lt_of_le hbx D3.out.size
    by_cases hin : k ≤ l.length ∧ k < 61
    · obtain ⟨hin1, hin2⟩ := hin
      have htk := rawL_take ctxs l k (by omega)
      have T1 := Lib.hid htk
      clear htk
      go_upto_if 21 with fail
      go_cut [] (fun wx => Blk wx wr.heap.size #[.int .i64 (binAt ctxs l k).1, .int .u8 0] 25 ∧ Only [] wr wx)
      case first =>
        by_cases hnil : ctxs = []
        · have hb1 : (binAt ctxs l k).1 = (k : Int) := by unfold binAt; rw [if_pos hnil]
          have hln : ctxs.length = 0 := by rw [hnil]; rfl
          have HB1 := Lib.hid hb1
          clear hnil hb1
          go_wp2_with fail
          go_meet
          exact ⟨by rw [HB1.out]; exact Blk.new' _ _ (by simp), (Only.refl [] wr).alloc _⟩
        · have hln : 0 < ctxs.length := List.length_pos_iff.2 hnil
          have hmod : k % ctxs.length < ctxs.length := Nat.mod_lt _ hln
          have hb1 : (binAt ctxs l k).1 = ctxs[k % ctxs.length] := by unfold binAt; simp only []; rw [if_neg hnil, List.getD_eq_getElem?_getD, List.getElem?_eq_getElem hmod]; rfl
          obtain ⟨g, off, rfl, hc1, hc2, hcells⟩ := HC.out.at (k % ctxs.length) hmod
          obtain ⟨c, hc⟩ : ∃ c, c = ctxs[k % ctxs.length] := ⟨_, rfl⟩
          rw [← hc] at hcells hb1
          have HB1 := Lib.hid hb1
          have hX := fun (W : World) (ho : Only [] wr W) => (show W.cell? ⟨bx, 0, none⟩ = some (.slice (some ⟨g, off, none⟩) ctxs.length cc) ∧ g < W.heap.size ∧ W.cell? ⟨g, off + k % ctxs.length, none⟩ = some (.int .i64 c) from
            ⟨by rw [World.cell?_of_block (ho.block bx hbx2 (by simp))]; exact cb, hcells W (D3.out.trans ho (by simp))⟩)
          have HX := Lib.hid hX
          have hcast : ((k : Int) % (ctxs.length : Int)) = ((k % ctxs.length : Nat) : Int) := by omega
          have hct : Int.tmod (k : Int) (ctxs.length : Int) = ((k % ctxs.length : Nat) : Int) := by rw [Int.tmod_eq_emod_of_nonneg (by omega)]; exact hcast
          obtain ⟨q, hq⟩ : ∃ q, q = k % ctxs.length := ⟨_, rfl⟩
          rw [← hq] at hcast hct hmod HX
          have hne0 : ¬ ((ctxs.length : Int) = 0) := by omega
          clear hcells hX hb1 hc hq
          go_wp2_with fail
          go_region_held3 (fun w' => w'.cell? ⟨bx, 0, none⟩ = some (.slice (some ⟨g, off, none⟩) ctxs.length cc) ∧ g < w'.heap.size ∧ w'.cell? ⟨g, off + q, none⟩ = some (.int .i64 c)) (first | (exact HX.out _ (((Only.refl [] wr).alloc _).drew)) | (exact HX.out _ ((((Only.refl [] wr).alloc _).drew).setCell _ (.inr (by simp)) _))) (first | fail)
          all_goals
            go_wp2_with fail
            go_meet
            exact ⟨by rw [HB1.out]; exact (Blk.new' _ _ rfl).drew, ((Only.refl [] wr).alloc _).drew⟩
      case rest =>
        obtain ⟨hBk, hO⟩ := hcut
        have CO := Lib.hid hO
        have CS := Lib.hid (D1.out.only hO (by simp))
        have q4 : k + 1 ≤ maxLen := by unfold maxLen; omega
        have q5 : (k + 1) * 16 ≤ 140737488355328 := by omega
        have hba : (binAt ctxs l k).2 = if l.getD k false then 1 else 0 := rfl
        obtain ⟨⟨c, b0⟩, hbb⟩ : ∃ x : Bn, x = binAt ctxs l k := ⟨_, rfl⟩
        rw [← hbb] at hba hBk
        simp only [] at hba hBk
        have c0 : wc.cell? ⟨wr.heap.size, 0, none⟩ = some (.int .i64 c) := (hBk.cell 0).trans rfl
        have c1 : wc.cell? ⟨wr.heap.size, 1, none⟩ = some (.int .u8 0) := (hBk.cell 1).trans rfl
        have f1 := hBk.free 1
        have hltb := hBk.lt
        have hov : ∀ q, ov.ownBlock = some q → q ≠ wr.heap.size := fun q hq => Nat.ne_of_lt (D1.out.lt hq)
        have HOV := Lib.hid hov
        clear hBk hO hov
        by_cases hkl : k < l.length
        · obtain ⟨g, off, rfl, hd1, hd2, hcells⟩ := HL.out.at k hkl
          obtain ⟨g5, k5⟩ := hcells wc (D3.out.trans CO.out (by simp))
          have hgd : l.getD k false = l[k] := by rw [List.getD_eq_getElem?_getD, List.getElem?_eq_getElem hkl]; rfl
          rw [hgd] at hba
          obtain ⟨e, he⟩ : ∃ e, e = l[k] := ⟨_, rfl⟩
          rw [← he] at hba k5
          clear hcells hgd he
          cases e with
          | false =>
            have HBA := Lib.hid (show binAt ctxs l k = (c, 0) by rw [← hbb, hba]; rfl)
            clear hba hbb
            go_wp2_with (
              at_builtin
              refine wpList_append_lies _ rfl (.tmp 41) (.tmp 43) 22 rfl 0 25 i0 (.agg #[.int .i64 0, .int .u8 0]) 2 16 Try.underlying22 hi hz0 hz1 hz2 rfl (by decide) ov k (binCells ((rawL ctxs l).take k)) rfl ?_ ⟨_, 0, none⟩ 1 1 [.int .i64 c, .int .u8 0] rfl rfl ?_ ?_ (by decide) ?_ ?_ (Nat.zero_le _) _ rfl ?_
              · exact CS.out.alloc _
              · exact World.news_of_block (cs := #[_, _]) (Blk.new' _ _ (by simp))
              · simp [Value.oneCell']
              · exact q4
              · exact q5
              intro ng ncap w1 hown hgrow hat hltn)
            go_roundw
            case rel =>
              refine ⟨k + 1, _, rfl, by omega, by go_num, ?_, ?_, ?_⟩
              · rw [T1.out, binCells_append, HBA.out]
                exact hown
              · intro g' e
                have hs1 := D3.out.size
                have hs2 := CO.out.size
                rcases hat with q | q
                · have := D2.out _ q; simp only [Value.ownBlock, Option.some.injEq] at e; omega
                · simp only [Value.ownBlock, Option.some.injEq] at e; simp at q; omega
              · exact D3.out.trans (Only.appended (CO.out.alloc _) hgrow) (fun x hx => .inr (D2.out x (by simpa using hx)))
            case measure => simp [intOf]; omega
          | true =>
            have HBA := Lib.hid (show binAt ctxs l k = (c, 1) by rw [← hbb, hba]; rfl)
            clear hba hbb
            go_wp2_with (
              at_builtin
              refine wpList_append_lies _ rfl (.tmp 41) (.tmp 43) 22 rfl 0 25 i0 (.agg #[.int .i64 0, .int .u8 0]) 2 16 Try.underlying22 hi hz0 hz1 hz2 rfl (by decide) ov k (binCells ((rawL ctxs l).take k)) rfl ?_ ⟨_, 0, none⟩ 1 1 [.int .i64 c, .int .u8 1] rfl rfl ?_ ?_ (by decide) ?_ ?_ (Nat.zero_le _) _ rfl ?_
              · exact (CS.out.set_other ⟨wr.heap.size, 1, none⟩ (fun e => HOV.out _ e rfl) _).alloc _
              · exact World.news_of_block (cs := #[_, _]) (Blk.new' _ _ (by simp))
              · simp [Value.oneCell']
              · exact q4
              · exact q5
              intro ng ncap w1 hown hgrow hat hltn)
            go_roundw
            case rel =>
              refine ⟨k + 1, _, rfl, by omega, by go_num, ?_, ?_, ?_⟩
              · rw [T1.out, binCells_append, HBA.out]
                exact hown
              · intro g' e
                have hs1 := D3.out.size
                have hs2 := CO.out.size
                rcases hat with q | q
                · have := D2.out _ q; simp only [Value.ownBlock, Option.some.injEq] at e; omega
                · simp only [Value.ownBlock, Option.some.injEq] at e; simp at q; omega
              · exact D3.out.trans (Only.appended ((CO.out.setCell _ (.inr (Nat.le_refl _)) _).alloc _) hgrow) (fun x hx => .inr (D2.out x (by simpa using hx)))
            case measure => simp [intOf]; omega
        · have hgd : l.getD k false = false := by rw [List.getD_eq_getElem?_getD, List.getElem?_eq_none (by omega)]; rfl
          rw [hgd] at hba
          have HBA := Lib.hid (show binAt ctxs l k = (c, 0) by rw [← hbb, hba]; rfl)
          clear hba hbb hgd
          go_wp2_with (
            at_builtin
            refine wpList_append_lies _ rfl (.tmp 41) (.tmp 43) 22 rfl 0 25 i0 (.agg #[.int .i64 0, .int .u8 0]) 2 16 Try.underlying22 hi hz0 hz1 hz2 rfl (by decide) ov k (binCells ((rawL ctxs l).take k)) rfl ?_ ⟨_, 0, none⟩ 1 1 [.int .i64 c, .int .u8 0] rfl rfl ?_ ?_ (by decide) ?_ ?_ (Nat.zero_le _) _ rfl ?_
            · exact CS.out.alloc _
            · exact World.news_of_block (cs := #[_, _]) (Blk.new' _ _ (by simp))
            · simp [Value.oneCell']
            · exact q4
            · exact q5
            intro ng ncap w1 hown hgrow hat hltn)
          go_roundw
          case rel =>
            refine ⟨k + 1, _, rfl, by omega, by go_num, ?_, ?_, ?_⟩
            · rw [T1.out, binCells_append, HBA.out]
              exact hown
            · intro g' e
              have hs1 := D3.out.size
              have hs2 := CO.out.size
              rcases hat with q | q
              · have := D2.out _ q; simp only [Value.ownBlock, Option.some.injEq] at e; omega
              · simp only [Value.ownBlock, Option.some.injEq] at e; simp at q; omega
            · exact D3.out.trans (Only.appended (CO.out.alloc _) hgrow) (fun x hx => .inr (D2.out x (by simpa using hx)))
          case measure => simp [intOf]; omega
    · have hkend : k = (rawL ctxs l).length := by rw [rawL_len]; omega
      have hfull : (rawL ctxs l).take k = rawL ctxs l := List.take_of_length_le (by omega)
      have hSl : Sl wr 25 2 ov (rawL ctxs l).length (binCells (rawL ctxs l)) := by
        have := D1.out
        rw [hfull, hkend] at this
        exact this
      have hlen61 : (rawL ctxs l).length ≤ 61 := by rw [rawL_len]; omega
      have hwf : ∀ x ∈ rawL ctxs l, -9223372036854775808 ≤ x.1 ∧ x.1 ≤ 9223372036854775807 ∧ x.2 < 256 := by
        intro x hx
        obtain ⟨i, hi2, rfl⟩ := List.mem_map.1 hx
        have hi3 := List.mem_range.1 hi2
        unfold binAt
        refine ⟨?_, ?_, by simp only []; split <;> omega⟩
        · simp only []
          split
          · omega
          · rename_i hn
            have hm := Nat.mod_lt i (List.length_pos_iff.2 hn)
            rw [List.getD_eq_getElem?_getD, List.getElem?_eq_getElem hm]
            exact (HW.out _ (List.getElem_mem _)).1
        · simp only []
          split
          · omega
          · rename_i hn
            have hm := Nat.mod_lt i (List.length_pos_iff.2 hn)
            rw [List.getD_eq_getElem?_getD, List.getElem?_eq_getElem hm]
            exact (HW.out _ (List.getElem_mem _)).2
      have hfit := fit_sl hSl.bins (by omega) hwf
      have FIT := Lib.hid hfit
      clear hkend hfull hSl hwf hfit
      have fin : ∀ W W', Only [] w W → (∃ u, Sl W' 25 2 u (fit (rawL ctxs l)).length (binCells (fit (rawL ctxs l))) ∧ Only [] W W') → Only [] w W' := fun W W' h h2 => by obtain ⟨_, _, h3⟩ := h2; exact h.trans h3 (by simp)
      clear fin
      by_cases hle : k ≤ l.length
      all_goals
        go_wp2_with fail
        refine FIT.out.mono ?_
        rintro en w5 ⟨u, rfl, p1, p2, p3⟩
        have P1 := Lib.hid p1
        have P3 := Lib.hid (D3.out.trans p3 (by simp))
        clear p1 p2 p3
        go_wp2_with fail
        go_returns
        obtain ⟨a, cap, rfl⟩ := P1.out.form
        exact ⟨a, cap, rfl, P1.out.bins, P3.out⟩

end Go.Proofs.Ytbpdhfenomebpaa
