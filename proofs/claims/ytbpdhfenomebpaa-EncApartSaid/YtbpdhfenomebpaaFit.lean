/-
  Layer 25's law: rest, Fit, alive.
-/
import Derived.Test.YtbpdhfenomebpaaCode
namespace Sp

/-- A number's rest. -/
def restN (n : Int) (m : Nat) : Nat := (n % (m : Int)).toNat

theorem restN_lt (n : Int) (m : Nat) (h : 0 < m) : restN n m < m := by
  unfold restN
  have h1 := Int.emod_nonneg n (b := (m : Int)) (by omega)
  have h2 := Int.emod_lt_of_pos n (b := (m : Int)) (by omega)
  omega

theorem tmod_pos {n m : Int} (h : 0 < m) : -m < n.tmod m ∧ n.tmod m < m := by
  constructor
  · by_cases hn : 0 ≤ n
    · have := Int.tmod_nonneg m hn; omega
    · have h1 := Int.neg_tmod (a := n) (b := m)
      have h2 := Int.tmod_lt_of_pos (-n) h
      omega
  · exact Int.tmod_lt_of_pos n h

theorem rest_eq (n : Int) (m : Nat) (h : 0 < m) : (n.tmod (m : Int) + (m : Int)) % (m : Int) = (restN n m : Int) := by
  have h1 := Int.emod_nonneg n (b := (m : Int)) (by omega)
  unfold restN
  rw [Int.toNat_of_nonneg h1, Int.add_emod_right]
  have h2 := Int.mul_tdiv_add_tmod n (m : Int)
  have h3 : n.tmod (m : Int) = n - (m : Int) * n.tdiv (m : Int) := by omega
  rw [h3, Int.sub_mul_emod_self_left]

/-- A bin made valid. -/
def fitB (x : Bn) : Bn := (if restN x.1 287 = 286 then -1 else (restN x.1 287 : Int), x.2 % 2)

def fit (l : List Bn) : List Bn := (l.take 200).map fitB

theorem fitB_ok (x : Bn) : (fitB x).ok := by
  have := restN_lt x.1 287 (by decide)
  refine ⟨?_, ?_, by simp [fitB]; omega⟩
  · simp only [fitB]; split <;> omega
  · simp only [fitB]; split <;> omega

theorem fit_ok (l : List Bn) : ∀ x ∈ fit l, x.ok := by
  intro x hx
  obtain ⟨y, _, rfl⟩ := List.mem_map.1 hx
  exact fitB_ok y

theorem fit_len (l : List Bn) : (fit l).length ≤ 200 := by unfold fit; rw [List.length_map, List.length_take]; omega

end Sp
namespace Go.Proofs.Ytbpdhfenomebpaa
open Go.RowKit Sp

set_option maxHeartbeats 1600000 in
theorem rest_any {w : World} (n : Int) (m : Nat) (hm : 0 < m) (hm2 : m ≤ 1000000) (_h1 : -9223372036854775808 ≤ n) (_h2 : n ≤ 9223372036854775807) :
    Calls Try.prog 39 #[.int .i64 n, .int .i64 m] w fun en w' => en = .returned (.int .i64 (restN n m)) ∧ w = w' := by
  have e := Lib.hid (rest_eq n m hm)
  obtain ⟨q1, q2⟩ := tmod_pos (n := n) (m := (m : Int)) (by omega)
  go_enter Try.func39, Try.ntmps39
  go_wp2_with fail
  go_returns
  refine ⟨?_, rfl⟩
  rw [e.out]
  rfl

def binCells (l : List Bn) : List Value := l.flatMap fun x => [.int .i64 x.1, .int .u8 x.2]

theorem binCells_length (l : List Bn) : (binCells l).length = l.length * 2 := by
  induction l with
  | nil => rfl
  | cons x l ih => simp only [binCells, List.flatMap_cons, List.length_append, List.length_cons, List.length_nil] at ih ⊢; omega

theorem binCells_get (l : List Bn) (k : Nat) (h : k < l.length) : (binCells l)[k * 2]? = some (.int .i64 l[k].1) ∧ (binCells l)[k * 2 + 1]? = some (.int .u8 l[k].2) := by
  induction l generalizing k with
  | nil => simp at h
  | cons x l ih =>
    cases k with
    | zero => exact ⟨rfl, rfl⟩
    | succ k =>
      have := ih k (by simpa using h)
      rw [show (k + 1) * 2 = k * 2 + 1 + 1 by omega]
      simpa [binCells] using this

theorem Sl.bins {w : World} {v : Value} {l : List Bn} (h : Sl w 25 2 v l.length (binCells l)) : BinsIn w v v.ownBlock.toList l := by
  rcases h.2 with ⟨rfl, h0⟩ | ⟨g, cap, cur, rfl, _, hh, hc, hm, _⟩
  · obtain rfl : l = [] := List.eq_nil_of_length_eq_zero h0
    exact ⟨⟨none, 0, rfl⟩, .inl rfl⟩
  · refine ⟨⟨_, cap, rfl⟩, .inr ⟨g, 0, cap, rfl, rfl, lt_of_block hh, hc, by unfold maxLen at hm; omega, fun k hk => ?_⟩⟩
    obtain ⟨e1, e2⟩ := binCells_get l k hk
    exact ⟨by rw [Nat.zero_add, h.cells _ (by omega), e1], by rw [Nat.zero_add, h.cells _ (by omega), e2]⟩

theorem fit_cells (l : List Bn) (k : Nat) (h : k < (fit l).length) : binCells ((fit l).take (k + 1)) = binCells ((fit l).take k) ++ [.int .i64 (fit l)[k].1, .int .u8 (fit l)[k].2] := by
  rw [List.take_succ_eq_append_getElem h]
  unfold binCells
  rw [List.flatMap_append]
  rfl

theorem info_Bin : (Try.prog.info? 25).map (fun i => (i.zero, i.size, i.bytes)) = some (some (.agg #[.int .i64 0, .int .u8 0]), 2, 16) := by kernel_rfl

set_option maxRecDepth 100000 in
set_option maxHeartbeats 1600000 in
theorem fit_sl {w : World} {G : List Nat} {v : Value} {l : List Bn} (hl : BinsIn w v G l) (hlen : l.length ≤ 9223372036854775807)
    (hwf : ∀ x ∈ l, -9223372036854775808 ≤ x.1 ∧ x.1 ≤ 9223372036854775807 ∧ x.2 < 256) :
    Calls Try.prog 40 #[v] w fun en w' => ∃ u, en = .returned u ∧ Sl w' 25 2 u (fit l).length (binCells (fit l)) ∧ (∀ g, u.ownBlock = some g → w.heap.size ≤ g) ∧ Only [] w w' := by
  obtain ⟨a0, cap0, rfl⟩ := hl.form
  obtain ⟨i0, hi, hz0, hz1, hz2⟩ := info_parts info_Bin
  have HL := Lib.hid hl
  have HV := Lib.hid hwf
  have hfl := fit_len l
  have hfl2 : (fit l).length = min 200 l.length := by unfold fit; rw [List.length_map, List.length_take]
  have HF := Lib.hid hfl2
  clear hl hwf hfl2
  go_enter Try.func40, Try.ntmps40
  go_wp2_with fail
  go_loopw [3, 4, 5] (fun o i _ wr => ∃ (k : Nat) (ov : Value), ov = o ∧ k ≤ (fit l).length ∧ i = .int .i64 k ∧ Sl wr 25 2 ov k (binCells ((fit l).take k)) ∧ (∀ g, ov.ownBlock = some g → w.heap.size ≤ g) ∧ Only [] w wr) (fun _ i _ _ => 200 - (intOf i).toNat)
  case atStart => exact ⟨0, _, rfl, Nat.zero_le _, rfl, Sl.nil _ _ _, by simp [Value.ownBlock], Only.refl _ _⟩
  case round =>
    obtain ⟨k, ov, rfl, hk, rfl, hS, hO, ho⟩ := hrel
    by_cases hlt : k < (fit l).length
    · have hfl2 := HF.out
      have hL := HL.out.only ho (by simp)
      rcases hL.here with hnil | ⟨g, off, cap, hv, _, hg, hcp, hm, hcells⟩
      · exfalso; have := congrArg List.length hnil; simp only [List.length_nil] at this; omega
      obtain ⟨rfl, rfl⟩ : a0 = some ⟨g, off, none⟩ ∧ cap0 = cap := by simpa using hv
      have hk1 : k < l.length := by omega
      have hk2 : k < 200 := by omega
      obtain ⟨k0, k1⟩ := hcells k hk1
      obtain ⟨v1, v2, v3⟩ := HV.out l[k] (List.getElem_mem _)
      have hget : (fit l)[k] = fitB l[k] := by simp [fit]
      obtain ⟨⟨c, bit⟩, hx2⟩ : ∃ x : Bn, x = l[k] := ⟨_, rfl⟩
      rw [← hx2] at k0 k1 hget v1 v2 v3
      simp only [] at k0 k1 v1 v2 v3
      have D1 := Lib.hid hS
      have D2 := Lib.hid hO
      have D3 := Lib.hid ho
      have D4 := Lib.hid hget
      have q4 : k + 1 ≤ maxLen := by unfold maxLen; omega
      have q5 : (k + 1) * 16 ≤ 140737488355328 := by omega
      clear hS hO ho hL hcells hv hfl2 hx2 hget
      go_wp2_with fail
      refine (rest_any c 287 (by decide) (by decide) v1 v2).mono ?_
      rintro en w1 ⟨rfl, rfl⟩
      have hr := restN_lt c 287 (by decide)
      by_cases h286 : restN c 287 = 286
      · have t1 : ((restN c 287 : Int) == 286) = true := by rw [h286]; rfl
        go_wp2_with (
          at_builtin
          refine wpList_append_lies _ rfl (.tmp 24) (.tmp 33) 22 rfl 0 25 i0 (.agg #[.int .i64 0, .int .u8 0]) 2 16 Try.underlying22 hi hz0 hz1 hz2 rfl (by decide) ov k (binCells ((fit l).take k)) rfl ?_ ⟨_, 0, none⟩ 1 1 [.int .i64 (-1), .int .u8 ((bit : Int) % 2)] rfl rfl ?_ ?_ (by decide) ?_ ?_ (Nat.zero_le _) _ rfl ?_
          · exact D1.out.alloc _
          · exact World.news_of_block (cs := #[_, _]) (Blk.new' _ _ (by simp))
          · simp [Value.oneCell']
          · exact q4
          · exact q5
          intro ng ncap w1 hown hgrow hat hltn)
        go_roundw
        case rel =>
          refine ⟨k + 1, _, rfl, by omega, by go_num, ?_, ?_, ?_⟩
          · rw [fit_cells l k hlt, D4.out]
            simp only [fitB]
            rw [if_pos h286]
            exact hown
          · intro g' e
            rcases hat with q | q
            · have := D2.out _ q; simp only [Value.ownBlock, Option.some.injEq] at e; omega
            · have := D3.out.size; simp only [Value.ownBlock, Option.some.injEq, World.size_alloc] at e q; omega
          · exact D3.out.trans (Only.appended ((Only.refl [] wr).alloc _) hgrow) (fun x hx => .inr (D2.out x (by simpa using hx)))
        case measure => simp [intOf]; omega
      · have t1 : ((restN c 287 : Int) == 286) = false := by simp; omega
        go_wp2_with (
          at_builtin
          refine wpList_append_lies _ rfl (.tmp 24) (.tmp 33) 22 rfl 0 25 i0 (.agg #[.int .i64 0, .int .u8 0]) 2 16 Try.underlying22 hi hz0 hz1 hz2 rfl (by decide) ov k (binCells ((fit l).take k)) rfl ?_ ⟨_, 0, none⟩ 1 1 [.int .i64 (restN c 287), .int .u8 ((bit : Int) % 2)] rfl rfl ?_ ?_ (by decide) ?_ ?_ (Nat.zero_le _) _ rfl ?_
          · exact D1.out.alloc _
          · exact World.news_of_block (cs := #[_, _]) (Blk.new' _ _ (by simp))
          · simp [Value.oneCell']
          · exact q4
          · exact q5
          intro ng ncap w1 hown hgrow hat hltn)
        go_roundw
        case rel =>
          refine ⟨k + 1, _, rfl, by omega, by go_num, ?_, ?_, ?_⟩
          · rw [fit_cells l k hlt, D4.out]
            simp only [fitB]
            rw [if_neg h286]
            exact hown
          · intro g' e
            rcases hat with q | q
            · have := D2.out _ q; simp only [Value.ownBlock, Option.some.injEq] at e; omega
            · have := D3.out.size; simp only [Value.ownBlock, Option.some.injEq, World.size_alloc] at e q; omega
          · exact D3.out.trans (Only.appended ((Only.refl [] wr).alloc _) hgrow) (fun x hx => .inr (D2.out x (by simpa using hx)))
        case measure => simp [intOf]; omega
    · have hk2 : k = (fit l).length := by omega
      have D1 := Lib.hid hS
      have D2 := Lib.hid hO
      have D3 := Lib.hid ho
      have hfl2 := HF.out
      have fin : Sl wr 25 2 ov (fit l).length (binCells (fit l)) := by
        have := D1.out
        rw [hk2, List.take_length] at this
        exact this
      have FIN := Lib.hid fin
      by_cases h200 : k < 200
      · have hk3 : k = l.length := by omega
        clear hS hO ho hfl2 hk2 fin
        go_wp2_with fail
        go_returns
        exact ⟨ov, rfl, FIN.out, D2.out, D3.out⟩
      · have hk3 : k = 200 := by omega
        clear hS hO ho hfl2 hk2 fin
        go_wp2_with fail
        all_goals
          go_returns
          exact ⟨ov, rfl, FIN.out, D2.out, D3.out⟩

theorem fit_any {w : World} {G : List Nat} {v : Value} {l : List Bn} (hl : BinsIn w v G l) (hlen : l.length ≤ 9223372036854775807)
    (hwf : ∀ x ∈ l, -9223372036854775808 ≤ x.1 ∧ x.1 ≤ 9223372036854775807 ∧ x.2 < 256) :
    Calls Try.prog 40 #[v] w fun en w' => ∃ u, en = .returned u ∧ BinsIn w' u u.ownBlock.toList (fit l) ∧ (∀ g, u.ownBlock = some g → w.heap.size ≤ g) ∧ Only [] w w' := by
  refine (fit_sl hl hlen hwf).mono ?_
  rintro en w' ⟨u, rfl, h1, h2, h3⟩
  exact ⟨u, rfl, h1.bins, h2, h3⟩

end Go.Proofs.Ytbpdhfenomebpaa
