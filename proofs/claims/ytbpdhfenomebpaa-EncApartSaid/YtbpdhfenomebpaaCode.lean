/-
  Layer 25's law: an encoder with its table and its writer; Code.
-/
import Derived.Test.YtbpdhfenomebpaaStop
namespace Sp

def TE.stop (s : TE) : TE := ⟨s.T, s.e.stop0⟩

/-- A bin, and a Stop with false if its number is a multiple of stops. -/
def TE.stepS (stops i : Nat) (s : TE) (x : Bn) : TE := if 0 < stops ∧ i % stops = 0 then (s.bin x).stop else s.bin x

def TE.runS (stops : Nat) : Nat → List Bn → TE → TE
  | _, [], s => s
  | i, x :: l, s => TE.runS stops (i + 1) l (s.stepS stops i x)

theorem TE.runS_append (stops i : Nat) (l m : List Bn) (s : TE) : TE.runS stops i (l ++ m) s = TE.runS stops (i + l.length) m (TE.runS stops i l s) := by
  induction l generalizing i s with
  | nil => rfl
  | cons x l ih =>
    simp only [List.cons_append, TE.runS, List.length_cons]
    rw [ih, show i + 1 + l.length = i + (l.length + 1) by omega]

theorem TE.runS_take (stops : Nat) (l : List Bn) (s : TE) (k : Nat) (h : k < l.length) : TE.runS stops 0 (l.take (k + 1)) s = (TE.runS stops 0 (l.take k) s).stepS stops k l[k] := by
  rw [List.take_succ_eq_append_getElem h, TE.runS_append]
  simp only [TE.runS, List.length_take, Nat.zero_add]
  rw [Nat.min_eq_left (by omega)]

theorem TE.stop_ok {s : TE} (h : s.ok) : s.stop.ok := ⟨E.stop0_ok h.e, h.T⟩

theorem TE.stepS_ok {s : TE} (h : s.ok) (stops i : Nat) {x : Bn} (hx : x.ok) : (s.stepS stops i x).ok := by
  unfold TE.stepS
  split
  · exact TE.stop_ok (TE.bin_ok h hx)
  · exact TE.bin_ok h hx

theorem TE.runS_ok (stops i : Nat) {l : List Bn} {s : TE} (h : s.ok) (hl : ∀ x ∈ l, x.ok) : (TE.runS stops i l s).ok := by
  induction l generalizing s i with
  | nil => exact h
  | cons x l ih => exact ih (i + 1) (TE.stepS_ok h stops i (hl x (by simp))) (fun y hy => hl y (by simp [hy]))

theorem TE.stop_d {s : TE} (h : s.ok) : s.stop.e.d ≤ s.e.d + 9 := by
  obtain ⟨⟨_, h1, h2⟩, _⟩ := h
  exact ren_d _ (by simp only []; omega) (by simp only []; omega)

theorem TE.stepS_d {s : TE} (h : s.ok) (stops i : Nat) {x : Bn} (hx : x.ok) : (s.stepS stops i x).e.d ≤ s.e.d + 18 := by
  have h1 := TE.bin_d h x
  unfold TE.stepS
  split
  · have := TE.stop_d (TE.bin_ok h hx); omega
  · omega

theorem TE.runS_d (stops i : Nat) {l : List Bn} {s : TE} (h : s.ok) (hl : ∀ x ∈ l, x.ok) : (TE.runS stops i l s).e.d ≤ s.e.d + 18 * l.length := by
  induction l generalizing s i with
  | nil => simp [TE.runS]
  | cons x l ih =>
    have h1 := ih (i + 1) (TE.stepS_ok h stops i (hl x (by simp))) (fun y hy => hl y (by simp [hy]))
    have h2 := TE.stepS_d h stops i (hl x (by simp))
    show (TE.runS stops (i + 1) l (s.stepS stops i x)).e.d ≤ _
    rw [List.length_cons]
    omega

end Sp
namespace Go.Proofs.Ytbpdhfenomebpaa
open Go.RowKit Sp

/-- An encoder with its table and its writer, all at or behind block n. -/
structure Cd (n : Nat) (w : World) (b bw bt : Nat) (H F L : List Nat) (s : TE) : Prop where
  enc : Enc w b bw bt H s.e
  tab : Tab w bt s.T
  wr : Wr w bw F L
  ok : s.ok
  d1 : bt ∉ b :: H
  d2 : bt ∉ bw :: F
  d3 : bw ∉ b :: H
  d4 : ∀ x ∈ F, x ∉ b :: H
  n : ∀ x ∈ bt :: bw :: b :: (H ++ F), n ≤ x

theorem Cd.size {n : Nat} {w : World} {b bw bt : Nat} {H F L : List Nat} {s : TE} (h : Cd n w b bw bt H F L s) : n ≤ w.heap.size :=
  Nat.le_trans (h.n bt (by simp)) (Nat.le_of_lt h.tab.lt)

theorem Cd.next {n : Nat} {w w' : World} {b bw bt : Nat} {H H' F L : List Nat} {s s' : TE} (h : Cd n w b bw bt H F L s) (h1 : Enc w' b bw bt H' s'.e) (h2 : Tab w' bt s'.T) (h3 : s'.ok)
    (h4 : ∀ y ∈ H', y ∈ H ∨ w.heap.size ≤ y) (h5 : Only (bt :: b :: H) w w') : Cd n w' b bw bt H' F L s' := by
  have hn := h.n
  have hs := h.size
  have l1 := h.tab.lt
  have l2 := h.wr.lt
  have l3 := h.enc.lt
  have l4 := h.wr.fresh
  have e1 : ∀ z, z < w.heap.size → z ∉ b :: H → z ∉ b :: H' := by
    intro z hz hm hm'
    rcases List.mem_cons.1 hm' with q | q
    · exact hm (by simp [q])
    · rcases h4 z q with q | q
      · exact hm (List.mem_cons_of_mem _ q)
      · omega
  refine ⟨h1, h2, h.wr.only h5 ?_ ?_, h3, e1 bt l1 h.d1, h.d2, e1 bw l2 h.d3, fun x hx => e1 x (l4 x hx) (h.d4 x hx), ?_⟩
  · intro q
    rcases List.mem_cons.1 q with q | q
    · exact h.d2 (by simp [q])
    · exact h.d3 q
  · intro x hx q
    rcases List.mem_cons.1 q with q | q
    · exact h.d2 (by rw [← q]; exact List.mem_cons_of_mem _ hx)
    · exact h.d4 x hx q
  · intro x hx
    simp only [List.mem_cons, List.mem_append] at hx hn
    rcases hx with q | q | q | q | q
    · exact hn x (.inl q)
    · exact hn x (.inr (.inl q))
    · exact hn x (.inr (.inr (.inl q)))
    · rcases h4 x q with q | q
      · exact hn x (.inr (.inr (.inr (.inl q))))
      · omega
    · exact hn x (.inr (.inr (.inr (.inr q))))

/-- A change of what is at or behind n alone. -/
theorem Only.past {w0 w w' : World} {S : List Nat} (h : Only [] w0 w) (ho : Only S w w') (hS : ∀ x ∈ S, w0.heap.size ≤ x) : Only [] w0 w' := by
  have h1 : Only S w0 w := h.mono (by simp)
  have h2 := h1.trans ho (fun x hx => .inl hx)
  exact ⟨h2.os, h2.tape, h2.output, h2.size, fun k hk _ => h2.block k hk (fun e => by have := hS k e; omega)⟩

theorem Cd.only {n : Nat} {w w' : World} {b bw bt : Nat} {H F L S : List Nat} {s : TE} (h : Cd n w b bw bt H F L s) (ho : Only S w w') (hS : ∀ x ∈ bt :: bw :: b :: (H ++ F), x ∉ S) : Cd n w' b bw bt H F L s :=
  ⟨h.enc.only ho (hS _ (by simp)) (fun x hx => hS _ (by simp [hx])), h.tab.only ho (hS _ (by simp)), h.wr.only ho (hS _ (by simp)) (fun x hx => hS _ (by simp [hx])), h.ok, h.d1, h.d2, h.d3, h.d4, h.n⟩

theorem Cd.put {n : Nat} {w : World} {b bw bt : Nat} {H F L : List Nat} {s : TE} (h : Cd n w b bw bt H F L s) (x : Bn) (hv : x.ok) (hd : s.e.d ≤ 900000000000) :
    Calls Try.prog 23 #[.pointer (some ⟨b, 0, none⟩), .agg #[.int .i64 x.1, .int .u8 x.2]] w fun en w' => en = .returned (.int .i64 0) ∧
      ∃ H', Cd n w' b bw bt H' F L (s.bin x) ∧ (∀ y ∈ H', y ∈ H ∨ w.heap.size ≤ y) ∧ Only (bt :: b :: H) w w' := by
  refine (put_ok_any h.enc h.ok h.tab h.d1 x hv hd).mono ?_
  rintro en w' ⟨rfl, H', r1, r2, r3, r4⟩
  exact ⟨rfl, H', h.next r1 r2 (TE.bin_ok h.ok hv) r3 r4, r3, r4⟩

theorem Cd.bins {n : Nat} {w : World} {b bw bt : Nat} {H F L G : List Nat} {s : TE} {v : Value} {l : List Bn} (h : Cd n w b bw bt H F L s) (hl : BinsIn w v G l) (hG : ∀ g ∈ G, g ∉ bt :: b :: H) (hv : ∀ x ∈ l, x.ok) (hd : s.e.d + 9 * l.length ≤ 1000000000000) :
    Calls Try.prog 24 #[.pointer (some ⟨b, 0, none⟩), v] w fun en w' => en = .returned (.int .i64 0) ∧
      ∃ H', Cd n w' b bw bt H' F L (s.bins l) ∧ (∀ y ∈ H', y ∈ H ∨ w.heap.size ≤ y) ∧ Only (bt :: b :: H) w w' := by
  refine (bins_ok_any h.enc h.ok h.tab h.d1 hl hG hv hd).mono ?_
  rintro en w' ⟨rfl, H', r1, r2, r3, r4⟩
  exact ⟨rfl, H', h.next r1 r2 (TE.bins_ok h.ok hv) r3 r4, r3, r4⟩

theorem Cd.stop0 {n : Nat} {w : World} {b bw bt : Nat} {H F L : List Nat} {s : TE} (h : Cd n w b bw bt H F L s) (hd : s.e.d ≤ 900000000000) :
    Calls Try.prog 25 #[.pointer (some ⟨b, 0, none⟩), .bool false] w fun en w' => en = .returned (.int .i64 0) ∧
      ∃ H', Cd n w' b bw bt H' F L s.stop ∧ (∀ y ∈ H', y ∈ H ∨ w.heap.size ≤ y) ∧ Only (bt :: b :: H) w w' := by
  refine (stop_false_any h.enc h.ok.e hd).mono ?_
  rintro en w' ⟨rfl, H', r1, r2, r3⟩
  have r4 := r3.mono (T := bt :: b :: H) (fun x hx => List.mem_cons_of_mem _ hx)
  exact ⟨rfl, H', h.next r1 (h.tab.only r3 h.d1) (TE.stop_ok h.ok) r2 r4, r2, r4⟩

theorem Cd.stop1 {n : Nat} {w : World} {b bw bt : Nat} {H F L : List Nat} {s : TE} (h : Cd n w b bw bt H F L s) (hd : s.e.d + L.length ≤ 900000000000) :
    Calls Try.prog 25 #[.pointer (some ⟨b, 0, none⟩), .bool true] w fun en w' => en = .returned (.int .i64 0) ∧
      ∃ F', Wr w' bw F' (L ++ s.e.out) ∧ Tab w' bt s.T ∧ w'.cell? ⟨b, 5, none⟩ = some (.bool true) ∧ (∀ x ∈ F', x ∈ F ∨ w.heap.size ≤ x) ∧ bt ∉ bw :: F' ∧ Only (b :: bw :: (H ++ F)) w w' := by
  refine (stop_true_any h.enc h.ok.e h.wr h.d3 h.d4 hd).mono ?_
  rintro en w' ⟨rfl, F', r1, r2, r3, r4⟩
  have l1 := h.tab.lt
  refine ⟨rfl, F', r1, h.tab.only r4 ?_, r2, r3, ?_, r4⟩
  · intro q
    simp only [List.mem_cons, List.mem_append] at q
    rcases q with q | q | q | q
    · exact h.d1 (by simp [q])
    · exact h.d2 (by simp [q])
    · exact h.d1 (by simp [q])
    · exact h.d2 (by simp [q])
  · intro q
    rcases List.mem_cons.1 q with q | q
    · exact h.d2 (by simp [q])
    · rcases r3 _ q with q | q
      · exact h.d2 (by simp [q])
      · omega

/-- The table and the encoder at the beginning. -/
def start (cl qp : Nat) : TE := ⟨fun i => ini i cl qp, E.ini⟩

theorem Cd.new {n : Nat} {w : World} {bw bt : Nat} {F L : List Nat} {T : Nat → St} (hW : Wr w bw F L) (h8 : L.length % 8 = 0) (hL : L.length ≤ 1000000000000) (hT : Tab w bt T) (hd : bt ∉ bw :: F) (hn : ∀ x ∈ bt :: bw :: F, n ≤ x) :
    Calls Try.prog 22 #[.pointer (some ⟨bw, 0, none⟩), .pointer (some ⟨bt, 0, none⟩)] w fun en w' => ∃ b, en = .returned (.tuple #[.pointer (some ⟨b, 0, none⟩), .int .i64 0]) ∧
      w.heap.size ≤ b ∧ Cd n w' b bw bt [] F L ⟨T, E.ini⟩ ∧ Only [] w w' := by
  refine (enew_any hW h8 hL).mono ?_
  rintro en w' ⟨b, rfl, hb, r1, r2⟩
  have l1 := hT.lt
  have l2 := hW.lt
  have l3 := hW.fresh
  refine ⟨b, rfl, hb, ⟨r1, hT.only r2 (by simp), hW.only r2 (by simp) (by simp), ⟨E.ini_ok, hT.ok⟩, ?_, hd, ?_, ?_, ?_⟩, r2⟩
  · simp; omega
  · simp; omega
  · intro x hx; have := l3 x hx; simp; omega
  · intro x hx
    simp only [List.mem_cons, List.nil_append] at hx hn
    rcases hx with q | q | q | q
    · exact hn x (.inl q)
    · exact hn x (.inr (.inl q))
    · have := hn bt (.inl rfl); omega
    · exact hn x (.inr (.inr q))

set_option maxRecDepth 100000 in
set_option maxHeartbeats 3200000 in
theorem code_any {w : World} {G : List Nat} {v : Value} {l : List Bn} (cl qp stops : Nat) (hc : cl ≤ 3) (hq : qp ≤ 51) (hs : stops ≤ 1000000) (hl : BinsIn w v G l) (hv : ∀ x ∈ l, x.ok) (hlen : l.length ≤ 1000000) :
    Calls Try.prog 19 #[.int .i64 cl, .int .i64 qp, .int .i64 stops, v] w fun en w' => ∃ bt, en = .returned (.tuple #[.string (txt (TE.runS stops 0 l (start cl qp)).e.out), .pointer (some ⟨bt, 0, none⟩), .bool true]) ∧
      w.heap.size ≤ bt ∧ Tab w' bt (TE.runS stops 0 l (start cl qp)).T ∧ Only [] w w' := by
  obtain ⟨a0, cap0, rfl⟩ := hl.form
  have HL := Lib.hid hl
  have HV := Lib.hid hv
  clear hl hv
  go_enter Try.func19, Try.ntmps19
  go_wp2_with fail
  refine (new_any cl qp _ hc hq).mono ?_
  rintro en w1 ⟨bt, rfl, h1, h2, h3⟩
  have A1 := Lib.hid h2
  have A2 := Lib.hid h3
  have A3 := Lib.hid h1
  clear h1 h2 h3
  go_wp2_with fail
  refine (write_any _).mono ?_
  rintro en w2 ⟨bw, rfl, h1, h2, h3⟩
  have B1 := Lib.hid h2
  have B2 := Lib.hid (A2.out.trans h3 (by simp))
  have B3 := Lib.hid (A1.out.only h3 (by simp))
  have B4 := Lib.hid h1
  clear h1 h2 h3
  go_wp2_with fail
  refine (Cd.new (n := w.heap.size) B1.out rfl (by simp) B3.out (by have := A1.out.lt; have := B4.out; simp; omega) (by have := A3.out; have := B4.out; have := A2.out.size; simp; omega)).mono ?_
  rintro en w3 ⟨b, rfl, h1, h2, h3⟩
  have C1 := Lib.hid h2
  have C2 := Lib.hid (B2.out.trans h3 (by simp))
  clear h1 h2 h3
  go_wp2_with fail
  go_loopw [16] (fun i wr => ∃ (k : Nat) (H : List Nat), k ≤ l.length ∧ i = .int .i64 k ∧ Cd w.heap.size wr b bw bt H [] [] (TE.runS stops 0 (l.take k) (start cl qp)) ∧ Only [] w wr) (fun i _ => l.length - (intOf i).toNat)
  case atStart => exact ⟨0, [], Nat.zero_le _, rfl, C1.out, C2.out⟩
  case round =>
    obtain ⟨k, H, hk, rfl, hC, ho⟩ := hrel
    by_cases hlt : k < l.length
    · have hx := HV.out l[k] (List.getElem_mem _)
      have hL := HL.out.only ho (by simp)
      rcases hL.here with hnil | ⟨g, off, cap, hv, _, hg, hcp, hm, hcells⟩
      · exfalso; rw [hnil] at hlt; simp at hlt
      obtain ⟨rfl, rfl⟩ : a0 = some ⟨g, off, none⟩ ∧ cap0 = cap := by simpa using hv
      obtain ⟨k0, k1⟩ := hcells k hlt
      have hstep := TE.runS_take stops l (start cl qp) k hlt
      have hd := TE.runS_d stops 0 (l := l.take k) (s := start cl qp) C1.out.ok (fun x hx => HV.out x (List.mem_of_mem_take hx))
      rw [List.length_take, show (start cl qp).e.d = 0 from rfl] at hd
      obtain ⟨sk, hsk⟩ : ∃ sk, sk = TE.runS stops 0 (l.take k) (start cl qp) := ⟨_, rfl⟩
      rw [← hsk] at hC hstep hd
      obtain ⟨⟨c, bit⟩, hx2⟩ : ∃ x : Bn, x = l[k] := ⟨_, rfl⟩
      rw [← hx2] at k0 k1 hstep hx
      simp only [] at k0 k1
      have hd2 : sk.e.d ≤ 900000000 := by omega
      have hd3 := TE.bin_d hC.ok (c, bit)
      have D1 := Lib.hid hC
      have D2 := Lib.hid ho
      have D3 := Lib.hid hstep
      have D4 := Lib.hid hx
      clear hC ho hstep hx hL hcells hsk hx2 hv hd
      go_wp2_with fail
      refine (D1.out.put (c, bit) D4.out (by omega)).mono ?_
      rintro en w4 ⟨rfl, H2, r1, r2, r3⟩
      have ho2 := D2.out.past r3 (fun x hx => D1.out.n x (by simp only [List.mem_cons, List.mem_append] at hx ⊢; rcases hx with q | q | q <;> simp [q]))
      have E1 := Lib.hid r1
      have E2 := Lib.hid ho2
      clear r1 r2 r3 ho2
      by_cases hs0 : 0 < stops
      · by_cases hm0 : k % stops = 0
        · have t1 : ((k : Int) % (stops : Int) == 0) = true := by rw [beq_iff_eq]; exact_mod_cast hm0
          have t2 : sk.stepS stops k (c, bit) = (sk.bin (c, bit)).stop := by unfold TE.stepS; rw [if_pos ⟨hs0, hm0⟩]
          have E3 := Lib.hid t2
          clear t2
          go_wp2_with fail
          refine (E1.out.stop0 (by omega)).mono ?_
          rintro en w5 ⟨rfl, H3, r1, r2, r3⟩
          have ho2 := E2.out.past r3 (fun x hx => E1.out.n x (by simp only [List.mem_cons, List.mem_append] at hx ⊢; rcases hx with q | q | q <;> simp [q]))
          have F1 := Lib.hid r1
          have F2 := Lib.hid ho2
          clear r1 r2 r3 ho2
          go_wp2_with fail
          go_roundw
          case rel => exact ⟨k + 1, H3, by omega, by go_num, by rw [D3.out, E3.out]; exact F1.out, F2.out⟩
          case measure => simp [intOf]; omega
        · have t1 : ((k : Int) % (stops : Int) == 0) = false := by simp; omega
          have t2 : sk.stepS stops k (c, bit) = sk.bin (c, bit) := by unfold TE.stepS; rw [if_neg (fun h => hm0 h.2)]
          have E3 := Lib.hid t2
          clear t2
          go_wp2_with fail
          go_roundw
          case rel => exact ⟨k + 1, H2, by omega, by go_num, by rw [D3.out, E3.out]; exact E1.out, E2.out⟩
          case measure => simp [intOf]; omega
      · have t2 : sk.stepS stops k (c, bit) = sk.bin (c, bit) := by unfold TE.stepS; rw [if_neg (fun h => hs0 h.1)]
        have E3 := Lib.hid t2
        clear t2
        go_wp2_with fail
        go_roundw
        case rel => exact ⟨k + 1, H2, by omega, by go_num, by rw [D3.out, E3.out]; exact E1.out, E2.out⟩
        case measure => simp [intOf]; omega
    · obtain rfl : k = l.length := by omega
      rw [List.take_length] at hC
      have D1 := Lib.hid hC
      have D2 := Lib.hid ho
      clear hC ho
      have hd := TE.runS_d stops 0 (l := l) (s := start cl qp) C1.out.ok HV.out
      rw [show (start cl qp).e.d = 0 from rfl] at hd
      go_wp2_with fail
      refine (D1.out.stop1 (by simp; omega)).mono ?_
      rintro en w4 ⟨rfl, F', r1, r2, _, _, _, r4⟩
      have ho2 := D2.out.past r4 (fun x hx => D1.out.n x (by simp only [List.mem_cons, List.mem_append] at hx ⊢; rcases hx with q | q | q | q <;> simp [q]))
      rw [List.nil_append] at r1
      have E1 := Lib.hid r1
      have E2 := Lib.hid r2
      have E3 := Lib.hid ho2
      clear r1 r2 r4 ho2
      go_wp2_with fail
      refine (bits_any E1.out (by unfold E.out; rw [bitsOf_length]; omega)).mono ?_
      rintro en w5 ⟨rfl, r1⟩
      have G1 := Lib.hid (E3.out.trans r1 (by simp))
      have G2 := Lib.hid (E2.out.only r1 (by simp))
      clear r1
      go_wp2_with fail
      go_returns
      exact ⟨bt, rfl, A3.out, G2.out, G1.out⟩

end Go.Proofs.Ytbpdhfenomebpaa
