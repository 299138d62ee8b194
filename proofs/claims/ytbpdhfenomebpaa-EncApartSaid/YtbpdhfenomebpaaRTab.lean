/-
  Tables of the reference 24 in memory: what its New, State and See do.
-/
import Derived.Test.YtbpdhfenomebpaaTab
namespace Go.Proofs.Ytbpdhfenomebpaa
open Go.RowKit Sp

/-- Block b is a table of the reference; its row is block g. -/
structure RTab (w : World) (b g : Nat) (T : Nat → St) : Prop where
  here : ∃ cap, Blk w b #[.slice (some ⟨g, 0, none⟩) 286 cap] 159 ∧ Sl w 63 2 (.slice (some ⟨g, 0, none⟩) 286 cap) 286 (tab T).toList
  ok : ∀ i, (T i).ok

theorem RTab.lt {w : World} {b g : Nat} {T : Nat → St} (h : RTab w b g T) : b < w.heap.size ∧ g < w.heap.size := by
  obtain ⟨⟨cap, h1, h2⟩, _⟩ := h
  exact ⟨h1.lt, h2.lt rfl⟩
theorem RTab.only {w w' : World} {b g : Nat} {T : Nat → St} {S : List Nat} (h : RTab w b g T) (ho : Only S w w') (hb : b ∉ S) (hg : g ∉ S) : RTab w' b g T := by
  obtain ⟨⟨cap, h1, h2⟩, h3⟩ := h
  exact ⟨⟨cap, h1.only ho hb, h2.only ho (by rintro k ⟨⟩; exact hg)⟩, h3⟩

set_option maxHeartbeats 400000 in
theorem rstate_cells (b g cap i p m : Nat) (w : World) (hi : i < 286) (hb : b < w.heap.size) (hg : g < w.heap.size)
    (hs : w.cell? ⟨b, 0, none⟩ = some (.slice (some ⟨g, 0, none⟩) 286 cap))
    (h0 : w.cell? ⟨g, i * 2, none⟩ = some (.int .u8 p)) (h1 : w.cell? ⟨g, i * 2 + 1, none⟩ = some (.int .u8 m)) :
    Calls Try.prog 38 #[.pointer (some ⟨b, 0, none⟩), .int .i64 i] w fun e w' => e = .returned (.tuple #[.agg #[.int .u8 p, .int .u8 m], .int .i64 0]) ∧ ∃ c, w' = w.alloc (.cells c 63) := by
  go_enter Try.func38, Try.ntmps38
  go_wp2
  go_returns
  exact ⟨rfl, _, rfl⟩

theorem rstate_any {w : World} {b g : Nat} {T : Nat → St} (h : RTab w b g T) (i : Nat) (hi : i < 286) :
    Calls Try.prog 38 #[.pointer (some ⟨b, 0, none⟩), .int .i64 i] w fun e w' => e = .returned (.tuple #[.agg #[.int .u8 (T i).p, .int .u8 (T i).m], .int .i64 0]) ∧ ∃ c, w' = w.alloc (.cells c 63) := by
  obtain ⟨⟨cap, h1, h2⟩, _⟩ := h
  exact rstate_cells b g cap i _ _ w hi h1.lt (h2.lt rfl) ((h1.cell 0).trans rfl) ((h2.cells _ (by omega)).trans (by rw [Array.getElem?_toList]; exact tab_p T i hi)) ((h2.cells _ (by omega)).trans (by rw [Array.getElem?_toList]; exact tab_m T i hi))

set_option maxHeartbeats 1600000 in
theorem rsee_cells (b g cap i p m bit : Nat) (w : World) (hi : i < 286) (hb : b < w.heap.size) (hg : g < w.heap.size) (hp : p ≤ 62) (hm : m ≤ 1) (hbit : bit ≤ 1)
    (hs : w.cell? ⟨b, 0, none⟩ = some (.slice (some ⟨g, 0, none⟩) 286 cap))
    (h0 : w.cell? ⟨g, i * 2, none⟩ = some (.int .u8 p)) (h1 : w.cell? ⟨g, i * 2 + 1, none⟩ = some (.int .u8 m))
    (h2 : w.frozen? ⟨g, i * 2, none⟩ = false) (h3 : w.frozen? ⟨g, i * 2 + 1, none⟩ = false) :
    Calls Try.prog 111 #[.pointer (some ⟨b, 0, none⟩), .int .i64 i, .int .u8 bit] w fun e w' => e = .returned (.int .i64 0) ∧
      Only [] ((w.setCell ⟨g, i * 2, none⟩ (.int .u8 (nxt ⟨p, m⟩ bit).p)).setCell ⟨g, i * 2 + 1, none⟩ (.int .u8 (nxt ⟨p, m⟩ bit).m)) w' := by
  have hbk : ∀ k, b < w.heap.size + k := fun k => by omega
  have hgk : ∀ k, g < w.heap.size + k := fun k => by omega
  go_enter Try.func111, Try.ntmps111
  go_wp2_with (first | (go_at_call 38; refine (rstate_cells b g cap i p m _ hi ?_ ?_ ?_ ?_ ?_).mono ?_; exact hb; exact hg; exact hs; exact h0; exact h1; rintro e w' ⟨rfl, c, rfl⟩) | (go_at_call 137; refine (rnext_any p m bit _ hp hm hbit).mono ?_; unfold stV; rintro e w' ⟨rfl, c1, c2, c3, rfl⟩))
  go_region
  all_goals
    go_wp2
    go_returns
    exact ⟨rfl, ((((((Only.refl [] _).alloc _).alloc _).alloc _).alloc _).alloc _).drew⟩

theorem rsee_any {w : World} {b g : Nat} {T : Nat → St} (h : RTab w b g T) (hne : b ≠ g) (i bit : Nat) (hi : i < 286) (hbit : bit ≤ 1) :
    Calls Try.prog 111 #[.pointer (some ⟨b, 0, none⟩), .int .i64 i, .int .u8 bit] w fun e w' => e = .returned (.int .i64 0) ∧
      RTab w' b g (upd T i (nxt (T i) bit)) ∧ Only [g] w w' := by
  obtain ⟨⟨cap, h1, h2⟩, hok⟩ := h
  obtain ⟨o1, o2⟩ := hok i
  refine (rsee_cells b g cap i _ _ bit w hi h1.lt (h2.lt rfl) o1 o2 hbit ((h1.cell 0).trans rfl) ((h2.cells _ (by omega)).trans (by rw [Array.getElem?_toList]; exact tab_p T i hi)) ((h2.cells _ (by omega)).trans (by rw [Array.getElem?_toList]; exact tab_m T i hi)) (h2.free _) (h2.free _)).mono ?_
  rintro e w' ⟨rfl, ho⟩
  have hs := ((h2.set (i * 2) (.int .u8 (nxt (T i) bit).p)).set (i * 2 + 1) (.int .u8 (nxt (T i) bit).m)).only ho (by simp)
  have hb := ((h1.other ⟨g, i * 2, none⟩ hne (.int .u8 (nxt (T i) bit).p)).other ⟨g, i * 2 + 1, none⟩ hne (.int .u8 (nxt (T i) bit).m)).only ho (by simp)
  rw [← Array.toList_setIfInBounds, ← Array.toList_setIfInBounds, tab_set] at hs
  refine ⟨rfl, ⟨⟨cap, hb, hs⟩, upd_ok hok i (nxt_ok (hok i) hbit)⟩, ?_⟩
  exact (((Only.refl [g] w).setCell ⟨g, i * 2, none⟩ (by simp) _).setCell ⟨g, i * 2 + 1, none⟩ (by simp) _).trans ho (by simp)

theorem info_State : (Try.prog.info? 63).map (fun i => (i.zero, i.size, i.bytes)) = some (some (.agg #[.int .u8 0, .int .u8 0]), 2, 2) := by kernel_rfl

set_option maxRecDepth 100000 in
set_option maxHeartbeats 1600000 in
theorem rnew_any (cl qp : Nat) (w : World) (hc : cl ≤ 3) (hq : qp ≤ 51) :
    Calls Try.prog 29 #[.int .i64 cl, .int .i64 qp] w fun e w' => ∃ b g, e = .returned (.tuple #[.pointer (some ⟨b, 0, none⟩), .int .i64 0]) ∧
      w.heap.size ≤ b ∧ w.heap.size ≤ g ∧ b ≠ g ∧ RTab w' b g (fun i => ini i cl qp) ∧ Only [] w w' := by
  obtain ⟨i0, hi, hz0, hz1, hz2⟩ := info_parts info_State
  go_enter Try.func29, Try.ntmps29
  go_wp2_with fail
  go_loopw [7] (fun i wr => ∃ (k : Nat) (v : Value), k ≤ 286 ∧ i = .int .i64 k ∧ Blk wr w.heap.size #[v] 159 ∧ Sl wr 63 2 v k ((tab (fun i => ini i cl qp)).toList.take (k * 2)) ∧
    (∀ g, v.ownBlock = some g → w.heap.size < g) ∧ Only [] w wr) (fun i _ => 286 - (intOf i).toNat)
  case atStart => exact ⟨0, _, Nat.zero_le _, rfl, Blk.new _ _ _, by simp only [Nat.zero_mul, List.take_zero]; exact Sl.nil _ _ _, by simp [Value.ownBlock], (Only.refl [] w).alloc _⟩
  case round =>
    obtain ⟨k, v, hk, rfl, hblk, hsl, hv, ho⟩ := hrel
    have hb := hblk.lt
    have hbk : ∀ j, w.heap.size < wr.heap.size + j := fun j => by omega
    by_cases hk2 : k < 286
    · have c0 : wr.cell? ⟨w.heap.size, 0, none⟩ = some v := (hblk.cell 0).trans rfl
      have f0 := hblk.free 0
      have q4 : k + 1 ≤ maxLen := by unfold maxLen; omega
      have q5 : (k + 1) * 2 ≤ 140737488355328 := by omega
      have HB := Lib.hid hblk
      have HO := Lib.hid ho
      have HS := Lib.hid hsl
      have HV := Lib.hid hv
      clear hblk ho hsl hv
      go_wp2_with (go_at_call 93; refine (rinit_any k cl qp _ hk2 hc hq).mono ?_; unfold stV; rintro e w' ⟨rfl, c, rfl⟩)
      go_region_law (
        refine step_append_lies _ rfl (.tmp 30) (.tmp 32) 157 rfl 0 63 i0 (.agg #[.int .u8 0, .int .u8 0]) 2 2 Try.underlying157 hi hz0 hz1 hz2 rfl (by decide) v k ((tab (fun i => ini i cl qp)).toList.take (k * 2)) rfl ?_ ⟨_, 0, none⟩ 1 1 [.int .u8 (ini k cl qp).p, .int .u8 (ini k cl qp).m] rfl rfl ?_ ?_ (by decide) ?_ ?_ (Nat.zero_le _) _ rfl ?_
        · exact ((((HS.out.alloc _).alloc _).alloc _).drew)
        · exact World.news_of_block (cs := #[_, _]) ((Blk.new' _ _ (by simp)).drew)
        · simp [Value.oneCell']
        · exact q4
        · exact q5
        intro g cap w1 hown hgrow hat hlt
        have h1 := (Only.refl [] wr).alloc (.cells c 63) |>.alloc (.cells #[.int .u8 (ini k cl qp).p, .int .u8 (ini k cl qp).m] 63) |>.alloc (.cells #[.int .u8 (ini k cl qp).p, .int .u8 (ini k cl qp).m] 63) |>.drew
        have h2 := h1.appended hgrow
        have h3 := HB.out.only h2 (fun e => absurd (HV.out w.heap.size (by simpa using e)) (Nat.lt_irrefl _))
        have c1 : w1.cell? ⟨w.heap.size, 0, none⟩ = some v := (h3.cell 0).trans rfl
        have f1 := h3.free 0
        have H1 := Lib.hid hown
        have H2 := Lib.hid h2
        have H3 := Lib.hid h3
        have hgw : w.heap.size < g := by
          rcases hat with e | e
          · exact HV.out g e
          · rw [e]; simp only [World.size_alloc, World.size_drew]; omega
        clear hown hgrow hat h1 h2 h3)
      all_goals
        go_wp2
        go_roundw
        case rel =>
          refine ⟨k + 1, _, by omega, by go_num, H3.out.set 0 _, ?_, ?_, ?_⟩
          · rw [← tab_take _ k hk2]
            exact Sl.set_other H1.out _ (by simp [Value.ownBlock]; omega) _
          · intro g' e
            simp only [Value.ownBlock, Option.some.injEq] at e
            omega
          · exact (HO.out.trans H2.out (fun x hx => .inr (Nat.le_of_lt (HV.out x (by simpa using hx))))).setCell ⟨w.heap.size, 0, none⟩ (by simp) _
        case measure => simp [intOf]; omega
    · obtain rfl : k = 286 := by omega
      have HB := Lib.hid hblk
      have HO := Lib.hid ho
      have HS := Lib.hid hsl
      have HV := Lib.hid hv
      clear hblk ho hsl hv
      go_wp2
      go_returns
      obtain ⟨g, cap, rfl, _, _⟩ := World.ownsRow.form HS.out (by decide)
      have hg := HV.out g rfl
      have hs := HS.out
      rw [tab_take_all] at hs
      exact ⟨w.heap.size, g, rfl, Nat.le_refl _, Nat.le_of_lt hg, by omega, ⟨⟨cap, HB.out, hs⟩, fun i => ini_ok i cl qp⟩, HO.out⟩

end Go.Proofs.Ytbpdhfenomebpaa
