/-
  Tables of contexts in memory: what New, State and See of ctx do.
-/
import Derived.Test.YtbpdhfenomebpaaCtx
namespace Go.Proofs.Ytbpdhfenomebpaa
open Go.RowKit Sp

/-- The cells of a table. -/
def tab (T : Nat → St) : Array Value := Array.ofFn (n := 572) fun k => if k.val % 2 = 0 then .int .u8 (T (k.val / 2)).p else .int .u8 (T (k.val / 2)).m

theorem tab_size (T : Nat → St) : (tab T).size = 572 := by unfold tab; rw [Array.size_ofFn]

theorem tab_p (T : Nat → St) (i : Nat) (h : i < 286) : (tab T)[i * 2]? = some (.int .u8 (T i).p) := by
  unfold tab
  rw [Array.getElem?_ofFn, dif_pos (by omega)]
  simp only []
  rw [if_pos (by omega), show i * 2 / 2 = i by omega]

theorem tab_m (T : Nat → St) (i : Nat) (h : i < 286) : (tab T)[i * 2 + 1]? = some (.int .u8 (T i).m) := by
  unfold tab
  rw [Array.getElem?_ofFn, dif_pos (by omega)]
  simp only []
  rw [if_neg (by omega), show (i * 2 + 1) / 2 = i by omega]

def upd (T : Nat → St) (i : Nat) (s : St) : Nat → St := fun j => if j = i then s else T j

theorem upd_same (T : Nat → St) (i : Nat) (s : St) : upd T i s i = s := by unfold upd; rw [if_pos rfl]
theorem upd_other (T : Nat → St) (i j : Nat) (s : St) (h : j ≠ i) : upd T i s j = T j := by unfold upd; rw [if_neg h]

theorem tab_take (T : Nat → St) (k : Nat) (h : k < 286) : (tab T).toList.take (k * 2) ++ [.int .u8 (T k).p, .int .u8 (T k).m] = (tab T).toList.take ((k + 1) * 2) := by
  have e1 : (tab T).toList[k * 2]? = some (.int .u8 (T k).p) := by rw [Array.getElem?_toList]; exact tab_p T k h
  have e2 : (tab T).toList[k * 2 + 1]? = some (.int .u8 (T k).m) := by rw [Array.getElem?_toList]; exact tab_m T k h
  rw [show (k + 1) * 2 = k * 2 + 1 + 1 by omega, List.take_add_one, List.take_add_one, e1, e2]
  simp

theorem tab_take_all (T : Nat → St) : (tab T).toList.take (286 * 2) = (tab T).toList := List.take_of_length_le (by rw [Array.length_toList, tab_size]; decide)

attribute [irreducible] tab

theorem tab_ext {A : Array Value} {T : Nat → St} (hs : A.size = 572) (hp : ∀ i, i < 286 → A[i * 2]? = some (.int .u8 (T i).p)) (hm : ∀ i, i < 286 → A[i * 2 + 1]? = some (.int .u8 (T i).m)) : A = tab T := by
  apply Array.ext_getElem?
  intro k
  by_cases hk : k < 572
  · by_cases h2 : k % 2 = 0
    · obtain ⟨i, rfl⟩ : ∃ i, k = i * 2 := ⟨k / 2, by omega⟩
      rw [hp i (by omega), tab_p T i (by omega)]
    · obtain ⟨i, rfl⟩ : ∃ i, k = i * 2 + 1 := ⟨k / 2, by omega⟩
      rw [hm i (by omega), tab_m T i (by omega)]
  · rw [Array.getElem?_eq_none (by omega), Array.getElem?_eq_none (by rw [tab_size]; omega)]

theorem tab_set (T : Nat → St) (i : Nat) (s : St) : ((tab T).setIfInBounds (i * 2) (.int .u8 s.p)).setIfInBounds (i * 2 + 1) (.int .u8 s.m) = tab (upd T i s) := by
  apply tab_ext
  · simp only [Array.size_setIfInBounds, tab_size]
  · intro j hj
    rw [Array.getElem?_setIfInBounds, if_neg (by omega), Array.getElem?_setIfInBounds]
    by_cases h : j = i
    · subst h
      rw [if_pos rfl, if_pos (by rw [tab_size]; omega), upd_same]
    · rw [if_neg (by omega), tab_p T j hj, upd_other T i j s h]
  · intro j hj
    rw [Array.getElem?_setIfInBounds]
    by_cases h : j = i
    · subst h
      rw [if_pos rfl, if_pos (by simp only [Array.size_setIfInBounds, tab_size]; omega), upd_same]
    · rw [if_neg (by omega), Array.getElem?_setIfInBounds, if_neg (by omega), tab_m T j hj, upd_other T i j s h]

/-- Block b is a table. -/
structure Tab (w : World) (b : Nat) (T : Nat → St) : Prop where
  blk : Blk w b (tab T) 148
  ok : ∀ i, (T i).ok

theorem Tab.lt {w : World} {b : Nat} {T : Nat → St} (h : Tab w b T) : b < w.heap.size := h.blk.lt
theorem Tab.only {w w' : World} {b : Nat} {T : Nat → St} {S : List Nat} (h : Tab w b T) (ho : Only S w w') (hn : b ∉ S) : Tab w' b T := ⟨h.blk.only ho hn, h.ok⟩

theorem upd_ok {T : Nat → St} (h : ∀ i, (T i).ok) (i : Nat) {s : St} (hs : s.ok) : ∀ j, (upd T i s j).ok := by
  intro j
  by_cases e : j = i
  · subst e; rw [upd_same]; exact hs
  · rw [upd_other _ _ _ _ e]; exact h j

set_option maxHeartbeats 400000 in
theorem state_cells (b i p m : Nat) (w : World) (hi : i < 286) (hb : b < w.heap.size)
    (h0 : w.cell? ⟨b, i * 2, none⟩ = some (.int .u8 p)) (h1 : w.cell? ⟨b, i * 2 + 1, none⟩ = some (.int .u8 m)) :
    Calls Try.prog 37 #[.pointer (some ⟨b, 0, none⟩), .int .i64 i] w fun e w' => e = .returned (.tuple #[.agg #[.int .u8 p, .int .u8 m], .int .i64 0]) ∧ ∃ c, w' = w.alloc (.cells c 63) := by
  go_enter Try.func37, Try.ntmps37
  go_wp2
  go_returns
  exact ⟨rfl, _, rfl⟩

theorem state_any {w : World} {b : Nat} {T : Nat → St} (h : Tab w b T) (i : Nat) (hi : i < 286) :
    Calls Try.prog 37 #[.pointer (some ⟨b, 0, none⟩), .int .i64 i] w fun e w' => e = .returned (.tuple #[.agg #[.int .u8 (T i).p, .int .u8 (T i).m], .int .i64 0]) ∧ ∃ c, w' = w.alloc (.cells c 63) :=
  state_cells b i _ _ w hi h.lt ((h.blk.cell _).trans (tab_p T i hi)) ((h.blk.cell _).trans (tab_m T i hi))

set_option maxHeartbeats 1600000 in
theorem see_cells (b i p m bit : Nat) (w : World) (hi : i < 286) (hb : b < w.heap.size) (hp : p ≤ 62) (hm : m ≤ 1) (hbit : bit ≤ 1)
    (h0 : w.cell? ⟨b, i * 2, none⟩ = some (.int .u8 p)) (h1 : w.cell? ⟨b, i * 2 + 1, none⟩ = some (.int .u8 m))
    (h2 : w.frozen? ⟨b, i * 2, none⟩ = false) (h3 : w.frozen? ⟨b, i * 2 + 1, none⟩ = false) :
    Calls Try.prog 105 #[.pointer (some ⟨b, 0, none⟩), .int .i64 i, .int .u8 bit] w fun e w' => e = .returned (.int .i64 0) ∧
      Only [] ((w.setCell ⟨b, i * 2, none⟩ (.int .u8 (nxt ⟨p, m⟩ bit).p)).setCell ⟨b, i * 2 + 1, none⟩ (.int .u8 (nxt ⟨p, m⟩ bit).m)) w' := by
  have hbk : ∀ k, b < w.heap.size + k := fun k => by omega
  go_enter Try.func105, Try.ntmps105
  go_wp2_with (first | (go_at_call 37; refine (state_cells b i p m _ hi ?_ ?_ ?_).mono ?_; exact hb; exact h0; exact h1; rintro e w' ⟨rfl, c, rfl⟩) | (go_at_call 44; refine (next_any p m bit _ hp hm hbit).mono ?_; unfold stV; rintro e w' ⟨rfl, c1, c2, c3, rfl⟩))
  go_region
  go_wp2
  go_returns
  exact ⟨rfl, ((((((Only.refl [] _).alloc _).alloc _).alloc _).alloc _).alloc _).drew⟩

theorem see_any {w : World} {b : Nat} {T : Nat → St} (h : Tab w b T) (i bit : Nat) (hi : i < 286) (hbit : bit ≤ 1) :
    Calls Try.prog 105 #[.pointer (some ⟨b, 0, none⟩), .int .i64 i, .int .u8 bit] w fun e w' => e = .returned (.int .i64 0) ∧
      Tab w' b (upd T i (nxt (T i) bit)) ∧ Only [b] w w' := by
  obtain ⟨o1, o2⟩ := h.ok i
  refine (see_cells b i _ _ bit w hi h.lt o1 o2 hbit ((h.blk.cell _).trans (tab_p T i hi)) ((h.blk.cell _).trans (tab_m T i hi)) (h.blk.free _) (h.blk.free _)).mono ?_
  rintro e w' ⟨rfl, ho⟩
  have hblk := ((h.blk.set (i * 2) (.int .u8 (nxt (T i) bit).p)).set (i * 2 + 1) (.int .u8 (nxt (T i) bit).m)).only ho (by simp)
  rw [tab_set] at hblk
  refine ⟨rfl, ⟨hblk, upd_ok h.ok i (nxt_ok (h.ok i) hbit)⟩, ?_⟩
  exact (((Only.refl [b] w).setCell ⟨b, i * 2, none⟩ (by simp) _).setCell ⟨b, i * 2 + 1, none⟩ (by simp) _).trans ho (by simp)

def part (T : Nat → St) (k : Nat) : Nat → St := fun i => if i < k then T i else ⟨0, 0⟩
theorem part_zero (T : Nat → St) : part T 0 = fun _ => ⟨0, 0⟩ := by funext i; simp [part]
theorem part_succ (T : Nat → St) (k : Nat) : upd (part T k) k (T k) = part T (k + 1) := by
  funext i
  unfold upd part
  by_cases h : i = k
  · subst h; rw [if_pos rfl, if_pos (by omega)]
  · rw [if_neg h]
    by_cases h2 : i < k
    · rw [if_pos h2, if_pos (by omega)]
    · rw [if_neg h2, if_neg (by omega)]
theorem tab_part (T : Nat → St) : tab (part T 286) = tab T :=
  tab_ext (tab_size _) (fun i hi => by rw [tab_p _ i hi]; simp [part, hi]) (fun i hi => by rw [tab_m _ i hi]; simp [part, hi])
theorem tab_zero : Try.zeroCells148 = tab (fun _ => ⟨0, 0⟩) := by kernel_rfl

set_option maxRecDepth 100000 in
set_option maxHeartbeats 1600000 in
theorem new_any (cl qp : Nat) (w : World) (hc : cl ≤ 3) (hq : qp ≤ 51) :
    Calls Try.prog 20 #[.int .i64 cl, .int .i64 qp] w fun e w' => ∃ b, e = .returned (.tuple #[.pointer (some ⟨b, 0, none⟩), .int .i64 0]) ∧
      w.heap.size ≤ b ∧ Tab w' b (fun i => ini i cl qp) ∧ Only [] w w' := by
  go_enter Try.func20, Try.ntmps20
  go_wp2_with fail
  go_loopw [12] (fun i wr => ∃ k : Nat, k ≤ 286 ∧ i = .int .i64 k ∧ Blk wr w.heap.size (tab (part (fun i => ini i cl qp) k)) 148 ∧ Only [] w wr) (fun i _ => 286 - (intOf i).toNat)
  case atStart => exact ⟨0, Nat.zero_le _, rfl, by rw [part_zero, ← tab_zero]; exact Blk.new _ _ _, (Only.refl [] w).alloc _⟩
  case round =>
    obtain ⟨k, hk, rfl, hblk, ho⟩ := hrel
    have hb := hblk.lt
    have hbk : ∀ j, w.heap.size < wr.heap.size + j := fun j => by omega
    by_cases hlt : k < 286
    · have c0 := (hblk.cell (k * 2)).trans (tab_p _ k hlt)
      have c1 := (hblk.cell (k * 2 + 1)).trans (tab_m _ k hlt)
      have f0 := hblk.free (k * 2)
      have f1 := hblk.free (k * 2 + 1)
      have A := Lib.hid hblk
      have A2 := Lib.hid ho
      clear hblk ho
      go_wp2_with (go_at_call 42; refine (init_any k cl qp _ hlt hc hq).mono ?_; unfold stV; rintro e w' ⟨rfl, c, rfl⟩)
      go_region
      go_wp2
      go_roundw
      case rel =>
        have hs := ((((A.out.set (k * 2) (.int .u8 (ini k cl qp).p)).set (k * 2 + 1) (.int .u8 (ini k cl qp).m)).alloc (.cells c 63)).alloc (.cells #[.int .u8 (ini k cl qp).p, .int .u8 (ini k cl qp).m] 63)).drew
        rw [tab_set, part_succ (fun i => ini i cl qp)] at hs
        refine ⟨k + 1, by omega, by go_num, hs, ?_⟩
        exact ((((A2.out.setCell ⟨w.heap.size, k * 2, none⟩ (by simp) _).setCell ⟨w.heap.size, k * 2 + 1, none⟩ (by simp) _).alloc _).alloc _).drew
      case measure => simp [intOf]; omega
    · obtain rfl : k = 286 := by omega
      have A := Lib.hid hblk
      have A2 := Lib.hid ho
      clear hblk ho
      go_wp2
      go_returns
      refine ⟨w.heap.size, rfl, Nat.le_refl _, ⟨?_, fun i => ini_ok i cl qp⟩, A2.out⟩
      rw [← tab_part]
      exact A.out

end Go.Proofs.Ytbpdhfenomebpaa
