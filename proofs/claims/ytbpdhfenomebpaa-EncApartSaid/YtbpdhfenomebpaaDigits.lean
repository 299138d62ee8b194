/-
  Layer 25's law: digits: plus, text.
-/
import Derived.Test.YtbpdhfenomebpaaWriter
namespace Sp

/-- The digits with a number added. -/
def plusL (l : List Nat) (n : Nat) : List Nat := bitsOf l.length (valOf l + n)

theorem valOf_lt (l : List Nat) (h : ∀ b ∈ l, b ≤ 1) : valOf l < 2 ^ l.length := by
  have h1 := valOf_bitsOf l.length (valOf l)
  rw [bitsOf_valOf l h] at h1
  rw [h1]
  exact Nat.mod_lt _ (Nat.pow_pos (by decide))

/-- What holds behind some rounds of plus: the digits ahead of place j are as they were, those behind are done, n is carried. -/
structure PlusAt (L : List Nat) (n0 : Nat) (j n : Nat) (t : List Nat) : Prop where
  le : j ≤ L.length
  len : t.length = L.length - j
  bits : ∀ b ∈ t, b ≤ 1
  sum : (valOf (L.take j) + n) * 2 ^ (L.length - j) + valOf t = valOf L + n0

theorem PlusAt.start (L : List Nat) (n0 : Nat) : PlusAt L n0 L.length n0 [] :=
  ⟨Nat.le_refl _, by simp, by simp, by simp [valOf]⟩

theorem valOf_cons (b : Nat) (l : List Nat) : valOf (b :: l) = b * 2 ^ l.length + valOf l := by
  have := valOf_append [b] l
  simpa [valOf] using this

theorem PlusAt.step {L : List Nat} {n0 j n : Nat} {t : List Nat} (h : PlusAt L n0 (j + 1) n t) (hj : j < L.length) : PlusAt L n0 j ((n + L[j]) / 2) ((n + L[j]) % 2 :: t) := by
  obtain ⟨h1, h2, h3, h4⟩ := h
  refine ⟨by omega, by rw [List.length_cons]; omega, ?_, ?_⟩
  · intro b hb
    rcases List.mem_cons.1 hb with q | q
    · omega
    · exact h3 b q
  · rw [valOf_cons, h2]
    rw [List.take_succ_eq_append_getElem hj, valOf_snoc] at h4
    rw [← h4, show L.length - j = L.length - (j + 1) + 1 by omega, Nat.pow_succ']
    obtain ⟨p, hp⟩ : ∃ p, p = 2 ^ (L.length - (j + 1)) := ⟨_, rfl⟩
    rw [← hp]
    have e1 : (2 * valOf (L.take j) + L[j] + n) * p = ((valOf (L.take j) + (n + L[j]) / 2) * 2 + (n + L[j]) % 2) * p := by congr 1; omega
    rw [e1, Nat.add_mul ((valOf (L.take j) + (n + L[j]) / 2) * 2), Nat.mul_assoc]
    omega

theorem PlusAt.done {L : List Nat} {n0 j : Nat} {t : List Nat} (h : PlusAt L n0 j 0 t) (hL : ∀ b ∈ L, b ≤ 1) : L.take j ++ t = plusL L n0 := by
  obtain ⟨h1, h2, h3, h4⟩ := h
  have hb : ∀ b ∈ L.take j ++ t, b ≤ 1 := by
    intro b hb
    rcases List.mem_append.1 hb with q | q
    · exact hL b (List.mem_of_mem_take q)
    · exact h3 b q
  have hl : (L.take j ++ t).length = L.length := by rw [List.length_append, List.length_take]; omega
  unfold plusL
  rw [← h4, Nat.add_zero, ← h2, ← valOf_append, ← hl]
  exact (bitsOf_valOf _ hb).symm

/-- All digits are done: what is carried is nothing, if there is room. -/
theorem PlusAt.zero {L : List Nat} {n0 n : Nat} {t : List Nat} (h : PlusAt L n0 0 n t) (hf : valOf L + n0 < 2 ^ L.length) : n = 0 := by
  obtain ⟨h1, h2, h3, h4⟩ := h
  by_cases e : n = 0
  · exact e
  · exfalso
    simp only [List.take_zero, Nat.sub_zero] at h4
    have : 1 * 2 ^ L.length ≤ n * 2 ^ L.length := Nat.mul_le_mul_right _ (by omega)
    have e0 : valOf [] = 0 := rfl
    rw [e0, Nat.zero_add] at h4
    omega

end Sp
namespace Go.Proofs.Ytbpdhfenomebpaa
open Go.RowKit Sp

theorem plus_set {L : List Nat} {j : Nat} {t : List Nat} (hj : j < L.length) (x : Nat) : ((L.take (j + 1) ++ t).map byteV).set j (byteV x) = (L.take j ++ (x :: t)).map byteV := by
  rw [List.take_succ_eq_append_getElem hj, List.map_append, List.map_append, List.append_assoc, List.set_append_right _ _ (by simp; omega)]
  simp [Nat.min_eq_left (Nat.le_of_lt hj)]

theorem plus_get {L : List Nat} {j : Nat} {t : List Nat} (hj : j < L.length) : ((L.take (j + 1) ++ t).map byteV)[j]? = some (byteV L[j]) := by
  rw [List.take_succ_eq_append_getElem hj, List.map_append, List.map_append, List.append_assoc, List.getElem?_append_right (by simp; omega)]
  simp [Nat.min_eq_left (Nat.le_of_lt hj)]

set_option maxRecDepth 100000 in
set_option maxHeartbeats 1600000 in
theorem plus_any {w : World} {g cap : Nat} {L : List Nat} (h : Sl w 5 1 (.slice (some ⟨g, 0, none⟩) L.length cap) L.length (L.map byteV)) (hb : ∀ x ∈ L, x ≤ 1) (h0 : 0 < L.length) (hL : L.length ≤ 1000000) (n : Nat) (hn : n ≤ 1000000) (hf : Sp.valOf L + n < 2 ^ L.length) :
    Calls Try.prog 41 #[.slice (some ⟨g, 0, none⟩) L.length cap, .int .i64 n] w fun en w' => ∃ g' cap', en = .returned (.slice (some ⟨g', 0, none⟩) L.length cap') ∧ w.heap.size ≤ g' ∧
      Sl w' 5 1 (.slice (some ⟨g', 0, none⟩) L.length cap') L.length ((plusL L n).map byteV) ∧ Only [] w w' := by
  obtain ⟨i0, hi, hz0, hz1, hz2⟩ := info_parts info_u8
  have HS := Lib.hid h
  have HB := Lib.hid hb
  have HF := Lib.hid hf
  clear h hb hf
  go_enter Try.func41, Try.ntmps41
  go_wp2_with (
    at_builtin
    refine wpList_append_lies _ rfl (.const (.slice none 0 0)) (.tmp 7) 70 rfl 0 5 i0 (.int .u8 0) 1 1 Try.underlying70 hi hz0 hz1 hz2 rfl (by decide) (.slice none 0 0) 0 [] rfl (Sl.nil _ _ _) ⟨g, 0, none⟩ L.length cap (L.map byteV) rfl (by simp) ?_ ?_ h0 ?_ ?_ (Nat.zero_le _) _ rfl ?_
    · intro j u hu
      rw [addr_at]
      have hj : j < L.length := by
        have := (List.getElem?_eq_some_iff.1 hu).1
        simpa using this
      rw [HS.out.cells j (by omega)]
      exact hu
    · intro u hu
      obtain ⟨x, _, rfl⟩ := List.mem_map.1 hu
      rfl
    · unfold maxLen; omega
    · omega
    intro ng ncap w1 hown hgrow hat hltn)
  rw [Nat.zero_add, List.nil_append] at hown
  have O1 : Only [] w w1 := (Only.appended (Only.refl [] w) hgrow).mono (by simp [Value.ownBlock])
  have hng : w.heap.size ≤ ng := by
    rcases hat with q | q
    · simp [Value.ownBlock] at q
    · omega
  have O2 := Lib.hid O1
  have O3 := Lib.hid (show Sl w1 5 1 (.slice (some ⟨ng, 0, none⟩) L.length ncap) L.length (L.map byteV) from hown)
  clear hown hgrow hat O1
  go_loopw [1, 6] (fun nv iv wr => ∃ (j m : Nat) (t : List Nat), nv = .int .i64 m ∧ iv = .int .i64 ((j : Int) - 1) ∧ PlusAt L n j m t ∧ m ≤ n ∧ Sl wr 5 1 (.slice (some ⟨ng, 0, none⟩) L.length ncap) L.length ((L.take j ++ t).map byteV) ∧ Only [] w wr) (fun _ iv _ => (intOf iv + 1).toNat)
  case atStart => exact ⟨L.length, n, [], rfl, rfl, PlusAt.start L n, Nat.le_refl _, by rw [List.take_length, List.append_nil]; exact O3.out, O2.out⟩
  case round =>
    obtain ⟨j, m, t, rfl, rfl, hP, hm, hS, ho⟩ := hrel
    have P1 := Lib.hid hP
    have P2 := Lib.hid hS
    have P3 := Lib.hid ho
    have hjl := hP.le
    clear hP hS ho O2 O3
    have fin : ∀ W, m = 0 → Only [] wr W → ∃ g' cap', (Ending.returned (.slice (some ⟨ng, 0, none⟩) L.length ncap) : Ending) = .returned (.slice (some ⟨g', 0, none⟩) L.length cap') ∧ w.heap.size ≤ g' ∧
        Sl W 5 1 (.slice (some ⟨g', 0, none⟩) L.length cap') L.length ((plusL L n).map byteV) ∧ Only [] w W := by
      intro W hm0 hW
      have hP := P1.out
      rw [hm0] at hP
      refine ⟨ng, ncap, rfl, hng, ?_, P3.out.trans hW (by simp)⟩
      rw [← hP.done HB.out]
      exact P2.out.only hW (by simp)
    have FIN := Lib.hid fin
    clear fin
    by_cases hj0 : j = 0
    · subst hj0
      have hm0 : m = 0 := P1.out.zero HF.out
      go_wp2_with fail
      go_returns
      exact FIN.out _ hm0 (Only.refl _ _)
    · obtain ⟨j, rfl⟩ : ∃ i, j = i + 1 := ⟨j - 1, by omega⟩
      rw [show (((j + 1 : Nat) : Int) - 1) = (j : Int) by omega]
      by_cases hm0 : m = 0
      · go_wp2_with fail
        go_returns
        exact FIN.out _ hm0 (Only.refl _ _)
      · have hx1 := HB.out (L[j]'(by omega)) (List.getElem_mem _)
        have hstep := P1.out.step (by omega : j < L.length)
        have c0 : wr.cell? ⟨ng, j, none⟩ = some (.int .u8 (L[j]'(by omega))) := (P2.out.cells j (by omega)).trans (plus_get (by omega))
        have f0 := P2.out.free j
        have hb2 := P2.out.set j (byteV ((m + L[j]'(by omega)) % 2))
        rw [plus_set (by omega)] at hb2
        obtain ⟨x, hx⟩ : ∃ x, x = L[j]'(by omega) := ⟨_, rfl⟩
        rw [← hx] at hx1 hstep c0 hb2
        have Q1 := Lib.hid hstep
        have Q2 := Lib.hid hb2
        have hlt : ng < wr.heap.size := P2.out.lt rfl
        have hcap : L.length ≤ ncap := by obtain ⟨_, _, q, _⟩ := P2.out.row; exact q
        clear hstep hb2 hx
        go_wp2_with fail
        go_roundw
        case rel =>
          refine ⟨j, (m + x) / 2, (m + x) % 2 :: t, by go_num, by go_num, Q1.out, by omega, ?_, P3.out.setCell ⟨ng, j, none⟩ (.inr hng) _⟩
          have e : (((m + x) % 2 : Nat) : Int) = ((m : Int) + x) % 2 := by omega
          have q := Q2.out
          unfold byteV at q ⊢
          rw [e] at q
          exact q
        case measure => simp [intOf]


set_option maxRecDepth 100000 in
set_option maxHeartbeats 1600000 in
theorem text_any {w : World} {g cap : Nat} {L : List Nat} (h : Sl w 5 1 (.slice (some ⟨g, 0, none⟩) L.length cap) L.length (L.map byteV)) (hb : ∀ x ∈ L, x ≤ 1) (hL : L.length ≤ 1000000) :
    Calls Try.prog 45 #[.slice (some ⟨g, 0, none⟩) L.length cap] w fun en w' => en = .returned (.string (txt L)) ∧ Only [] w w' := by
  obtain ⟨i0, hi, hz0, hz1, hz2⟩ := info_parts info_u8
  have L2 := Lib.hid h
  have M2 := Lib.hid hb
  clear h hb
  go_enter Try.func45, Try.ntmps45
  go_wp2_with fail
  go_loopw [3, 4] (fun o i wr => ∃ (k : Nat) (ov : Value), ov = o ∧ k ≤ L.length ∧ i = .int .i64 k ∧ Sl wr 5 1 ov k (((L.map fun x => 48 + x).take k).map byteV) ∧ (∀ q, ov.ownBlock = some q → w.heap.size ≤ q) ∧ Only [] w wr) (fun _ i _ => L.length - (intOf i).toNat)
  case atStart => exact ⟨0, _, rfl, Nat.zero_le _, rfl, Sl.nil _ _ _, by simp [Value.ownBlock], Only.refl _ _⟩
  case round =>
    obtain ⟨k, ov, rfl, hk, rfl, hS, hO, ho⟩ := hrel
    have P2 := Lib.hid (L2.out.only ho (by simp))
    have P3 := Lib.hid hS
    have P4 := Lib.hid hO
    have P5 := Lib.hid ho
    have hg := P2.out.lt rfl
    have hcp : L.length ≤ cap := by obtain ⟨_, _, q, _⟩ := P2.out.row; exact q
    clear hS hO ho
    by_cases hlt : k < L.length
    · have hx1 := M2.out L[k] (List.getElem_mem _)
      have cg : wr.cell? ⟨g, k, none⟩ = some (.int .u8 L[k]) := by
        rw [P2.out.cells k (by omega), List.getElem?_map, List.getElem?_eq_getElem (by omega)]; rfl
      have htk : ((L.map fun x => 48 + x).take (k + 1)).map byteV = ((L.map fun x => 48 + x).take k).map byteV ++ [.int .u8 (48 + ((L[k] : Nat) : Int))] := by
        rw [List.take_succ_eq_append_getElem (by simp; omega), List.map_append, List.getElem_map]
        simp [byteV]
      obtain ⟨x, hx⟩ : ∃ x, x = L[k] := ⟨_, rfl⟩
      rw [← hx] at hx1 cg htk
      have T1 := Lib.hid htk
      have q4 : k + 1 ≤ maxLen := by unfold maxLen; omega
      have q5 : (k + 1) * 1 ≤ 140737488355328 := by omega
      clear hx htk
      go_wp2_with (
        at_builtin
        refine wpList_append_lies _ rfl (.tmp 11) (.tmp 17) 57 rfl 0 5 i0 (.int .u8 0) 1 1 Try.underlying57 hi hz0 hz1 hz2 rfl (by decide) ov k (((L.map fun x => 48 + x).take k).map byteV) rfl ?_ ⟨_, 0, none⟩ 1 1 [.int .u8 (48 + (x : Int))] rfl rfl ?_ ?_ (by decide) ?_ ?_ (Nat.zero_le _) _ rfl ?_
        · exact P3.out.alloc _
        · exact World.news_of_block (cs := #[_]) (Blk.new' _ _ (by simp))
        · simp [Value.oneCell']
        · exact q4
        · exact q5
        intro ng ncap w1 hown hgrow hat hltn)
      go_roundw
      case rel =>
        refine ⟨k + 1, _, rfl, by omega, by go_num, ?_, ?_, ?_⟩
        · rw [T1.out]
          exact hown
        · intro g' e
          rcases hat with q | q
          · have := P4.out _ q; simp only [Value.ownBlock, Option.some.injEq] at e; omega
          · have := P5.out.size; simp only [Value.ownBlock, Option.some.injEq, World.size_alloc] at e q; omega
        · exact P5.out.trans (Only.appended ((Only.refl [] wr).alloc _) hgrow) (fun x hx => .inr (P4.out x (by simpa using hx)))
      case measure => simp [intOf]; omega
    · obtain rfl : k = L.length := by omega
      have hfull : (L.map fun x => 48 + x).take L.length = L.map fun x => 48 + x := List.take_of_length_le (by simp)
      have hsl : Sl wr 5 1 ov (L.map fun x => 48 + x).length ((L.map fun x => 48 + x).map byteV) := by
        have := P3.out
        rw [hfull] at this
        rw [List.length_map]
        exact this
      have hconv : (convert 57 9 ov).run Try.prog wr = .ok (.string (txt L)) wr := run_str_of hsl (by
        intro y hy
        obtain ⟨z, hz, rfl⟩ := List.mem_map.1 hy
        have := M2.out z hz
        omega)
      obtain ⟨t1, ht1⟩ : ∃ x, x = txt L := ⟨_, rfl⟩
      rw [← ht1] at hconv
      have HT := Lib.hid ht1
      clear hsl hfull ht1
      go_wp2_with fail
      go_returns
      exact ⟨by rw [HT.out]; rfl, P5.out⟩

end Go.Proofs.Ytbpdhfenomebpaa
