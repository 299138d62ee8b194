/-
  EncPieces: bins in pieces, after any bytes; the table's states. No condition.
-/
import Derived.Test.YtbpdhfenomebpaaWriter
namespace Sp

theorem TE.runS_zero (i : Nat) (l : List Bn) (s : TE) : TE.runS 0 i l s = s.bins l := by
  induction l generalizing i s with
  | nil => rfl
  | cons x l ih =>
    show TE.runS 0 (i + 1) l (s.stepS 0 i x) = (s.bin x).bins l
    rw [ih]
    rfl

theorem TE.bins_append (s : TE) (l m : List Bn) : s.bins (l ++ m) = (s.bins l).bins m := by
  unfold TE.bins
  rw [List.foldl_append]

theorem TE.bin_T (s : TE) (x : Bn) (i : Nat) : (s.bin x).T i = if x.1 = (i : Int) then nxt (s.T i) x.2 else s.T i := by
  unfold TE.bin
  split
  · rw [if_neg (by omega)]
  · simp only [updT]
    by_cases h : i = x.1.toNat
    · rw [if_pos h, if_pos (by omega), h]
    · rw [if_neg h, if_neg (by omega)]

end Sp
namespace Go.Proofs.Ytbpdhfenomebpaa
open Go.RowKit Sp

/-- The first bins of a slice, and the rest. -/
theorem BinsIn.take {w : World} {a : Option Addr} {cap : Nat} {G : List Nat} {l : List Bn} (h : BinsIn w (.slice a l.length cap) G l) (k : Nat) (hk : k ≤ l.length) : BinsIn w (.slice a k cap) G (l.take k) := by
  have hl : (l.take k).length = k := by rw [List.length_take]; omega
  refine ⟨⟨a, cap, by rw [hl]⟩, ?_⟩
  rcases h.here with rfl | ⟨g, off, c, hv, hG, hg, hc, hm, hcells⟩
  · left; simp
  · right
    obtain ⟨rfl, rfl⟩ : a = some ⟨g, off, none⟩ ∧ cap = c := by simpa using hv
    refine ⟨g, off, cap, by rw [hl], hG, hg, by omega, hm, fun j hj => ?_⟩
    rw [List.getElem_take]
    exact hcells j (by omega)

theorem BinsIn.drop {w : World} {g off cap : Nat} {G : List Nat} {l : List Bn} (h : BinsIn w (.slice (some ⟨g, off, none⟩) l.length cap) G l) (k : Nat) (hk : k < l.length) : BinsIn w (.slice (some ⟨g, off + k * 2, none⟩) (l.length - k) (cap - k)) G (l.drop k) := by
  have hl : (l.drop k).length = l.length - k := by rw [List.length_drop]
  refine ⟨⟨_, _, by rw [hl]⟩, ?_⟩
  rcases h.here with rfl | ⟨g', off', c, hv, hG, hg, hc, hm, hcells⟩
  · left; simp
  · right
    obtain ⟨⟨rfl, rfl⟩, rfl⟩ : (g = g' ∧ off = off') ∧ cap = c := by simpa using hv
    refine ⟨g, off + k * 2, cap - k, by rw [hl], hG, hg, by omega, by omega, fun j hj => ?_⟩
    rw [List.getElem_drop]
    have := hcells (k + j) (by omega)
    rw [show off + k * 2 + j * 2 = off + (k + j) * 2 by omega]
    exact this

theorem BinsIn.none {w : World} {a : Option Addr} {cap : Nat} {G : List Nat} : BinsIn w (.slice a 0 cap) G [] := ⟨⟨_, _, rfl⟩, .inl rfl⟩

theorem addr_plus (g off j : Nat) : (⟨g, off, none⟩ : Addr).add j = ⟨g, off + j, none⟩ := by unfold Addr.add; split <;> simp_all
theorem add_zero (x : Addr) : x.add 0 = x := by unfold Addr.add; rfl
theorem sizeBin (W : World) : (sizeOf (Try.prog.elem 22)).run Try.prog W = .ok 2 W := by kernel_rfl

theorem slice_to (W : World) (a : Option Addr) (len cap k : Nat) (h : k ≤ cap) : (Instr.slice 22 (.slice a len cap) none (some (.int .i64 k)) none).run Try.prog W = .ok (.slice a k cap) W := by
  rw [run_slice_h (P := Try.prog) W 22 a len cap (by kernel_rfl) .i64 k (by omega) (by omega), sizeBin]
  simp only [Result.andThen, sliced, Nat.zero_mul, Nat.sub_zero, Int.toNat_natCast]
  cases a with
  | none => simp
  | some x => simp [add_zero]

theorem slice_from (W : World) (a : Option Addr) (len cap k : Nat) (h : k ≤ len) : (Instr.slice 22 (.slice a len cap) (some (.int .i64 k)) none none).run Try.prog W = .ok (.slice (if cap = k then a else a.map (·.add (k * 2))) (len - k) (cap - k)) W := by
  rw [run_slice_l (P := Try.prog) W 22 a len cap (by kernel_rfl) .i64 k (by omega) (by omega), sizeBin]
  simp only [Result.andThen, sliced, Int.toNat_natCast]

theorem pieces_of {w : World} {a : Option Addr} {cap : Nat} {G : List Nat} {l : List Bn} (h : BinsIn w (.slice a l.length cap) G l) (hc : l.length ≤ cap) (k : Nat) (hk : k ≤ l.length) :
    ∃ v, (∀ W, (Instr.slice 22 (.slice a l.length cap) (some (.int .i64 k)) none none).run Try.prog W = .ok v W) ∧ BinsIn w v G (l.drop k) := by
  refine ⟨_, fun W => slice_from W a l.length cap k hk, ?_⟩
  by_cases e : k = l.length
  · subst e
    rw [List.drop_length, Nat.sub_self]
    exact BinsIn.none
  · rw [if_neg (by omega)]
    rcases h.here with rfl | ⟨g, off, c, hv, _⟩
    · simp at hk e; omega
    · obtain ⟨rfl, rfl⟩ : a = some ⟨g, off, none⟩ ∧ cap = c := by simpa using hv
      have := h.drop k (by omega)
      rw [Option.map_some, addr_plus]
      exact this

set_option maxRecDepth 100000 in
set_option maxHeartbeats 3200000 in
theorem pieces_any {w : World} {a : Option Addr} {cap : Nat} {G : List Nat} {l : List Bn} (cl qp at0 many : Int) (h1 : -9223372036854775808 ≤ cl ∧ cl ≤ 9223372036854775807) (h2 : -9223372036854775808 ≤ qp ∧ qp ≤ 9223372036854775807)
    (h3 : -9223372036854775808 ≤ at0 ∧ at0 ≤ 9223372036854775807) (h4 : -9223372036854775808 ≤ many ∧ many ≤ 9223372036854775807) (hl : BinsIn w (.slice a l.length cap) G l) (hlen : l.length ≤ 9223372036854775807)
    (hwf : ∀ x ∈ l, -9223372036854775808 ≤ x.1 ∧ x.1 ≤ 9223372036854775807 ∧ x.2 < 256) :
    Calls Try.prog 7 #[.int .i64 cl, .int .i64 qp, .int .i64 at0, .int .i64 many, .slice a l.length cap] w fun en w' => en = .returned (.bool true) ∧ Only [] w w' := by
  have r1 := restN_lt cl 4 (by decide)
  have r2 := restN_lt qp 52 (by decide)
  have r4 := restN_lt many 9 (by decide)
  have HF := Lib.hid hl
  have HW := Lib.hid hwf
  clear hl hwf
  go_enter Try.func7, Try.ntmps7
  go_wp2_with fail
  refine (rest_any cl 4 (by decide) (by decide) h1.1 h1.2).mono ?_
  rintro en w1 ⟨rfl, rfl⟩
  go_wp2_with fail
  refine (rest_any qp 52 (by decide) (by decide) h2.1 h2.2).mono ?_
  rintro en w1 ⟨rfl, rfl⟩
  go_wp2_with fail
  refine (fit_sl HF.out hlen HW.out).mono ?_
  rintro en w1 ⟨u, rfl, q1, q2, q3⟩
  have q0 := q1.bins
  obtain ⟨a2, cap2, rfl⟩ := q0.form
  have hcap : (a2 = none ∧ (fit l).length = 0 ∧ cap2 = 0) ∨ ∃ g, a2 = some ⟨g, 0, none⟩ ∧ (fit l).length ≤ cap2 ∧ g < w1.heap.size ∧ w.heap.size ≤ g := by
    rcases q1.2 with ⟨hv, h0⟩ | ⟨g, c, cur, hv, _, hh, hc, _, _⟩
    · simp only [Value.slice.injEq] at hv; exact .inl ⟨hv.1, h0, hv.2.2⟩
    · simp only [Value.slice.injEq] at hv
      obtain ⟨rfl, _, rfl⟩ := hv
      exact .inr ⟨g, rfl, hc, lt_of_block hh, q2 g rfl⟩
  have A1 := Lib.hid q0
  have A2 := Lib.hid q3
  have A3 := Lib.hid hcap
  clear q0 q1 q2 q3 hcap
  have hfl := fit_len l
  obtain ⟨f, hf⟩ : ∃ f, f = fit l := ⟨_, rfl⟩
  rw [← hf] at A1 hfl A3
  have hfo : ∀ x ∈ f, x.ok := by rw [hf]; exact fit_ok l
  rw [← hf]
  have HO := Lib.hid hfo
  clear hfo hf
  go_wp2_with fail
  have r3 := restN_lt at0 (f.length + 1) (by omega)
  refine (rest_any at0 (f.length + 1) (by omega) (by omega) h3.1 h3.2).mono ?_
  rintro en w2 ⟨rfl, rfl⟩
  go_wp2_with fail
  refine (rest_any many 9 (by decide) (by decide) h4.1 h4.2).mono ?_
  rintro en w2 ⟨rfl, rfl⟩
  go_wp2_with fail
  refine (code_any (restN cl 4) (restN qp 52) 0 (by omega) (by omega) (by omega) A1.out HO.out (by omega)).mono ?_
  rintro en w2 ⟨bt, rfl, p1, p2, p3⟩
  have B0 := Lib.hid (A1.out.only p3 (by simp))
  have hsz12 := p3.size
  have B1 := Lib.hid (A2.out.trans p3 (by simp))
  have B2 : Hid (w.heap.size ≤ bt) := Nat.le_trans A2.out.size p1
  have B3 := Lib.hid p2
  clear p1 p2 p3
  rw [TE.runS_zero] at B3
  rw [TE.runS_zero]
  obtain ⟨cl', hcl⟩ : ∃ x, x = restN cl 4 := ⟨_, rfl⟩
  obtain ⟨qp', hqp⟩ : ∃ x, x = restN qp 52 := ⟨_, rfl⟩
  obtain ⟨k, hk⟩ : ∃ x, x = restN at0 (f.length + 1) := ⟨_, rfl⟩
  obtain ⟨m, hm⟩ : ∃ x, x = restN many 9 := ⟨_, rfl⟩
  rw [← hcl, ← hqp] at B3
  rw [← hcl, ← hqp]
  rw [← hcl] at r1
  rw [← hqp] at r2
  rw [← hk] at r3
  rw [← hm] at r4
  rw [← hk, ← hm]
  clear hcl hqp hk hm
  go_wp2_with fail
  have hcap : f.length ≤ cap2 := by rcases A3.out with ⟨_, e, _⟩ | ⟨_, _, e, _⟩ <;> omega
  obtain ⟨v2, hv2, hb2⟩ := pieces_of B0.out hcap k (by omega)
  have hv1 := fun W => slice_to W a2 f.length cap2 k (by omega)
  have P0 := Lib.hid hb2
  have P1 := Lib.hid (B0.out.take k (by omega))
  have P2 := Lib.hid (TE.bins_append (start cl' qp') (f.take k) (f.drop k))
  rw [List.take_append_drop] at P2
  have hG0 : ∀ g ∈ (Value.slice a2 f.length cap2).ownBlock.toList, g < w2.heap.size := by
    intro g hg
    rcases A3.out with ⟨rfl, _⟩ | ⟨g', rfl, _, e, _⟩
    · simp [Value.ownBlock] at hg
    · simp [Value.ownBlock] at hg; omega
  have GG := Lib.hid hG0
  obtain ⟨GL, hGL⟩ : ∃ x, x = (Value.slice a2 f.length cap2).ownBlock.toList := ⟨_, rfl⟩
  rw [← hGL] at P0 P1 GG B0
  clear hb2 hcap hG0 hGL hsz12 A1
  have e8 : ((8 * m : Nat) : Int) = 8 * (m : Int) := by omega
  rw [← e8]
  clear e8
  obtain ⟨s0, hs0⟩ : ∃ x, x = start cl' qp' := ⟨_, rfl⟩
  have hok0 : s0.ok := by rw [hs0]; exact ⟨E.ini_ok, fun i => ini_ok i _ _⟩
  have hd0 : s0.e.d = 0 := by rw [hs0]; rfl
  have hT0 : ∀ i, s0.T i = ini i cl' qp' := by rw [hs0]; intro i; rfl
  have hE0 : ({ T := fun i => ini i cl' qp', e := E.ini } : TE) = s0 := hs0.symm
  rw [← hs0] at P2 B3
  rw [← hs0]
  have Z0 := Lib.hid hok0
  have Z1 := Lib.hid hd0
  have Z2 := Lib.hid hT0
  have Z3 := Lib.hid hE0
  clear hs0 hok0 hd0 hT0 hE0
  obtain ⟨out, hout⟩ : ∃ x, x = (s0.bins f).e.out := ⟨_, rfl⟩
  have hlen2 : out.length ≤ 100000 := by
    have := TE.bins_d Z0.out HO.out
    rw [hout]; unfold E.out; rw [bitsOf_length]; have := Z1.out; omega
  rw [← hout]
  have Z4 := Lib.hid hout
  clear hout
  obtain ⟨L, hL⟩ : ∃ x, x = List.replicate (8 * m) 1 := ⟨_, rfl⟩
  have hLl : L.length = 8 * m := by rw [hL, List.length_replicate]
  refine (writer_any (8 * m) (by omega)).mono ?_
  rw [← hL]
  clear hL
  rintro en w3 ⟨bw, F, rfl, p1, p2, p3, p4⟩
  have C0 := Lib.hid (B0.out.only p4 (by simp))
  have C1 := Lib.hid (B1.out.trans p4 (by simp))
  have C2 := Lib.hid p1
  have C3 := Lib.hid p2
  have C4 := Lib.hid p3
  have C5 := Lib.hid p4
  have C6 := Lib.hid (B3.out.only p4 (by simp))
  have C7 := Lib.hid (P0.out.only p4 (by simp))
  have C8 := Lib.hid (P1.out.only p4 (by simp))
  clear p1 p2 p3 p4 B0 P0 P1
  have hadd := fun W => run_txt_add (P := Try.prog) W L out (by omega)
  obtain ⟨t0, ht0⟩ : ∃ x, x = txt L := ⟨_, rfl⟩
  obtain ⟨t1, ht1⟩ : ∃ x, x = txt out := ⟨_, rfl⟩
  obtain ⟨t2, ht2⟩ : ∃ x, x = txt (L ++ out) := ⟨_, rfl⟩
  rw [← ht0, ← ht1, ← ht2] at hadd
  rw [← ht0, ← ht1]
  have T0 := Lib.hid ht0
  have T2 := Lib.hid ht2
  clear ht0 ht1 ht2
  go_wp2_with fail
  refine (new_any cl' qp' _ (by omega) (by omega)).mono ?_
  rintro en w4 ⟨bt2, rfl, p1, p2, p3⟩
  have D0 := Lib.hid (C0.out.only p3 (by simp))
  have D1 := Lib.hid (C1.out.trans p3 (by simp))
  have D4 := Lib.hid (C4.out.only p3 (by simp) (by simp))
  have D5 := Lib.hid (C5.out.trans p3 (by simp))
  have D6 := Lib.hid (C6.out.only p3 (by simp))
  have D7 := Lib.hid (C7.out.only p3 (by simp))
  have D8 := Lib.hid (C8.out.only p3 (by simp))
  have D9 := Lib.hid p2
  have D10 := Lib.hid p1
  clear p1 p2 p3 C0 C6 C7 C8
  go_wp2_with fail
  refine (Cd.new (n := w2.heap.size) D4.out (by omega) (by omega) D9.out (by
    have := C4.out.lt
    have := C4.out.fresh
    have := D10.out
    intro q
    rcases List.mem_cons.1 q with q | q
    · omega
    · have := C4.out.fresh bt2 q; omega) (by
    intro x hx
    simp only [List.mem_cons] at hx
    rcases hx with q | q | q
    · have := D10.out; have := C5.out.size; omega
    · have := C2.out; omega
    · exact C3.out x q)).mono ?_
  rintro en w5 ⟨b, rfl, p1, p2, p3⟩
  rw [Z3.out] at p2
  have E0 := Lib.hid (D0.out.only p3 (by simp))
  have E1 := Lib.hid (D1.out.trans p3 (by simp))
  have E5 := Lib.hid (D5.out.trans p3 (by simp))
  have E6 := Lib.hid (D6.out.only p3 (by simp))
  have E7 := Lib.hid (D7.out.only p3 (by simp))
  have E8 := Lib.hid (D8.out.only p3 (by simp))
  have E9 := Lib.hid p2
  clear p1 p2 p3 D0 D1 D4 D5 D6 D7 D8 D9 D10
  go_wp2_with fail
  have hkd := TE.bins_d Z0.out (l := f.take k) (fun x hx => HO.out x (List.mem_of_mem_take hx))
  rw [List.length_take] at hkd
  have hkd0 := Z1.out
  refine (E9.out.bins (G := GL) E8.out (fun g hg hm => by
    have h0 := GG.out g hg
    have h1 := E9.out.n g (by simp only [List.mem_cons, List.mem_append] at hm ⊢; rcases hm with q | q | q <;> simp [q])
    omega) (fun x hx => HO.out x (List.mem_of_mem_take hx)) (by rw [List.length_take]; omega)).mono ?_
  rintro en w6 ⟨rfl, H6, p1, _, p3⟩
  have hS : ∀ x ∈ bt2 :: b :: ([] : List Nat), w2.heap.size ≤ x := fun x hx => E9.out.n x (by simp only [List.mem_cons] at hx ⊢; rcases hx with q | q | q <;> simp_all)
  have F0 := Lib.hid (E0.out.only p3 (fun g hg hm => by have := GG.out g hg; have := hS g hm; omega))
  have F1 := Lib.hid (E1.out.past p3 (fun x hx => Nat.le_trans B1.out.size (hS x hx)))
  have F5 := Lib.hid (E5.out.past p3 hS)
  have F6 := Lib.hid (E6.out.only p3 (fun hm => by have := hS bt hm; have := B3.out.lt; omega))
  have F7 := Lib.hid (E7.out.only p3 (fun g hg hm => by have := GG.out g hg; have := hS g hm; omega))
  have F9 := Lib.hid p1
  clear p1 p3 hS E0 E1 E5 E6 E7 E8 E9
  go_wp2_with fail
  refine (F9.out.bins (G := []) (l := []) BinsIn.none (by simp) (by simp) (by simp; omega)).mono ?_
  rintro en w7 ⟨rfl, H7, p1, _, p3⟩
  have hS : ∀ x ∈ bt2 :: b :: H6, w2.heap.size ≤ x := fun x hx => F9.out.n x (by simp only [List.mem_cons, List.mem_append] at hx ⊢; rcases hx with q | q | q <;> simp [q])
  have G0 := Lib.hid (F0.out.only p3 (fun g hg hm => by have := GG.out g hg; have := hS g hm; omega))
  have G1 := Lib.hid (F1.out.past p3 (fun x hx => Nat.le_trans B1.out.size (hS x hx)))
  have G5 := Lib.hid (F5.out.past p3 hS)
  have G6 := Lib.hid (F6.out.only p3 (fun hm => by have := hS bt hm; have := B3.out.lt; omega))
  have G7 := Lib.hid (F7.out.only p3 (fun g hg hm => by have := GG.out g hg; have := hS g hm; omega))
  have G9 : Hid (Cd w2.heap.size w7 b bw bt2 H7 F L (s0.bins (f.take k))) := p1
  clear p1 p3 hS F0 F1 F5 F6 F7 F9
  go_wp2_with fail
  refine (G9.out.bins (G := GL) G7.out (fun g hg hm => by
    have h0 := GG.out g hg
    have h1 := G9.out.n g (by simp only [List.mem_cons, List.mem_append] at hm ⊢; rcases hm with q | q | q <;> simp [q])
    omega) (fun x hx => HO.out x (List.mem_of_mem_drop hx)) (by rw [List.length_drop]; omega)).mono ?_
  rintro en w8 ⟨rfl, H8, p1, _, p3⟩
  have hS : ∀ x ∈ bt2 :: b :: H7, w2.heap.size ≤ x := fun x hx => G9.out.n x (by simp only [List.mem_cons, List.mem_append] at hx ⊢; rcases hx with q | q | q <;> simp [q])
  have I0 := Lib.hid (G0.out.only p3 (fun g hg hm => by have := GG.out g hg; have := hS g hm; omega))
  have I1 := Lib.hid (G1.out.past p3 (fun x hx => Nat.le_trans B1.out.size (hS x hx)))
  have I5 := Lib.hid (G5.out.past p3 hS)
  have I6 := Lib.hid (G6.out.only p3 (fun hm => by have := hS bt hm; have := B3.out.lt; omega))
  rw [← P2.out] at p1
  have I9 := Lib.hid p1
  clear p1 p3 hS G0 G1 G5 G6 G7 G9
  go_wp2_with fail
  refine (bits_any I9.out.wr (by omega)).mono ?_
  rw [← T0.out]
  rintro en w9 ⟨rfl, p3⟩
  have J0 := Lib.hid (I0.out.only p3 (by simp))
  have J1 := Lib.hid (I1.out.trans p3 (by simp))
  have J5 := Lib.hid (I5.out.trans p3 (by simp))
  have J6 := Lib.hid (I6.out.only p3 (by simp))
  have J9 := Lib.hid (I9.out.only p3 (by simp))
  clear p3 I0 I1 I5 I6 I9
  go_wp2_with fail
  have hfd := TE.bins_d Z0.out HO.out
  refine (J9.out.stop1 (by omega)).mono ?_
  rw [← Z4.out]
  rintro en w10 ⟨rfl, F', p1, p2, _, _, _, p3⟩
  have hS : ∀ x ∈ b :: bw :: (H8 ++ F), w2.heap.size ≤ x := fun x hx => J9.out.n x (by simp only [List.mem_cons, List.mem_append] at hx ⊢; rcases hx with q | q | q | q <;> simp [q])
  have K0 := Lib.hid (J0.out.only p3 (fun g hg hm => by have := GG.out g hg; have := hS g hm; omega))
  have K1 := Lib.hid (J1.out.past p3 (fun x hx => Nat.le_trans B1.out.size (hS x hx)))
  have K6 := Lib.hid (J6.out.only p3 (fun hm => by have := hS bt hm; have := B3.out.lt; omega))
  have K7 := Lib.hid p2
  have K8 := Lib.hid p1
  clear p1 p2 p3 hS J0 J1 J5 J6 J9
  go_wp2_with fail
  refine (bits_any K8.out (by rw [List.length_append]; omega)).mono ?_
  rw [← T2.out]
  rintro en w11 ⟨rfl, p3⟩
  have L0 := Lib.hid (K0.out.only p3 (by simp))
  have L1 := Lib.hid (K1.out.trans p3 (by simp))
  have L6 := Lib.hid (K6.out.only p3 (by simp))
  have L7 := Lib.hid (K7.out.only p3 (by simp))
  clear p3 K0 K1 K6 K7 K8
  go_wp2_with fail
  have N0 : Hid (∀ i, s0.T i = ini i cl' qp') := Z2
  obtain ⟨S, hS⟩ : ∃ x, x = s0.bins f := ⟨_, rfl⟩
  rw [← hS] at L6 L7
  have HS := Lib.hid hS
  clear hS P2 Z3 Z4 T0 T2 hadd hkd hkd0 hfd hv1 hv2 C1 C2 C3 C4 C5 B1 B3 A2 A3 GG hLl hlen2
  go_loopw [20] (fun i wr => ∃ j : Nat, j ≤ 286 ∧ i = .int .i64 j ∧ Only [] w wr ∧ BinsIn wr (.slice a2 f.length cap2) GL f ∧ Tab wr bt S.T ∧ Tab wr bt2 S.T) (fun i _ => 286 - (intOf i).toNat)
  case atStart => exact ⟨0, Nat.zero_le _, rfl, L1.out, L0.out, L6.out, L7.out⟩
  case round =>
    obtain ⟨j, hj, rfl, m1, m2, m3, m4⟩ := hrel
    have M1 := Lib.hid m1
    have M2 := Lib.hid m2
    have M3 := Lib.hid m3
    have M4 := Lib.hid m4
    clear m1 m2 m3 m4 L0 L1 L6 L7
    obtain ⟨wo, rfl⟩ : ∃ wo : World, wo = wr := ⟨_, rfl⟩
    by_cases hlt : j < 286
    · go_wp2_with fail
      refine (state_any M3.out j hlt).mono ?_
      rintro en w12 ⟨rfl, c1, rfl⟩
      go_wp2_with fail
      refine (state_any (b := bt2) (T := S.T) (M4.out.only (((Only.refl [] wo).alloc _).alloc _) (by simp)) j hlt).mono ?_
      rintro en w12 ⟨rfl, c2, rfl⟩
      go_wp2_with fail
      refine (init_any j cl' qp' _ hlt (by omega) (by omega)).mono ?_
      rw [← N0.out j]
      unfold stV
      rintro en w12 ⟨rfl, c3, rfl⟩
      go_wp2_with fail
      go_loopw [27] (fun i wr => ∃ q : Nat, q ≤ f.length ∧ i = .int .i64 q ∧ Only [] wo wr ∧ Blk wr (wo.heap.size + 1) #[.int .u8 (S.T j).p, .int .u8 (S.T j).m] 63 ∧ Blk wr (wo.heap.size + 1 + 1 + 1) #[.int .u8 (S.T j).p, .int .u8 (S.T j).m] 63 ∧
        Blk wr (wo.heap.size + 1 + 1 + 1 + 1 + 1) #[.int .u8 ((s0.bins (f.take q)).T j).p, .int .u8 ((s0.bins (f.take q)).T j).m] 63) (fun i _ => f.length - (intOf i).toNat)
      case atStart =>
        refine ⟨0, Nat.zero_le _, rfl, ((((((Only.refl [] wo).alloc _).alloc _).alloc _).alloc _).alloc _).alloc _, ?_, ?_, Blk.new' _ _ (by simp)⟩
        · exact ((((Blk.new' _ _ (by simp)).alloc _).alloc _).alloc _).alloc _
        · exact ((Blk.new' _ _ (by simp)).alloc _).alloc _
      case round =>
        obtain ⟨q, hq, rfl, o1, o2, o3, o4⟩ := hrel
        have O1 := Lib.hid o1
        have O2 := Lib.hid o2
        have O3 := Lib.hid o3
        by_cases hlq : q < f.length
        · have hBq := M2.out.only o1 (by simp)
          have O4 := Lib.hid o4
          rcases hBq.here with hnil | ⟨g, off, cap3, hv, _, hg, hcp, hmm, hcells⟩
          · exfalso; rw [hnil] at hlq; simp at hlq
          obtain ⟨rfl, rfl⟩ : a2 = some ⟨g, off, none⟩ ∧ cap2 = cap3 := by simpa using hv
          obtain ⟨k0, k1⟩ := hcells q hlq
          have hxo := HO.out f[q] (List.getElem_mem _)
          have hstep := TE.bins_take (s := s0) f q hlq
          have hokq := TE.bins_ok Z0.out (l := f.take q) (fun x hx => HO.out x (List.mem_of_mem_take hx))
          obtain ⟨sq, hsq⟩ : ∃ x, x = s0.bins (f.take q) := ⟨_, rfl⟩
          rw [← hsq] at hstep hokq O4
          obtain ⟨⟨c, bit⟩, hx2⟩ : ∃ x : Bn, x = f[q] := ⟨_, rfl⟩
          rw [← hx2] at k0 k1 hstep hxo
          simp only [] at k0 k1
          obtain ⟨v1, v2, v3⟩ := hxo
          simp only [] at v1 v2 v3
          have hT := TE.bin_T sq (c, bit) j
          rw [← hstep] at hT
          simp only [] at hT
          obtain ⟨⟨p, mm⟩, hst⟩ : ∃ x : St, x = sq.T j := ⟨_, rfl⟩
          obtain ⟨w1', w2'⟩ := hokq.T j
          rw [← hst] at hT w1' w2' O4
          simp only [] at w1' w2' O4
          have e0 : wr.cell? ⟨wo.heap.size + 1 + 1 + 1 + 1 + 1, 0, none⟩ = some (.int .u8 p) := (O4.out.cell 0).trans rfl
          have e1 : wr.cell? ⟨wo.heap.size + 1 + 1 + 1 + 1 + 1, 1, none⟩ = some (.int .u8 mm) := (O4.out.cell 1).trans rfl
          have ef0 := O4.out.free 0
          have ef1 := O4.out.free 1
          have hlt2 := O4.out.lt
          have hbk : ∀ z, wo.heap.size + 1 + 1 + 1 + 1 + 1 < wr.heap.size + z := fun z => by omega
          have hb4 : wo.heap.size + 1 + 1 + 1 + 1 < wr.heap.size := by omega
          have hb3 : wo.heap.size + 1 + 1 + 1 < wr.heap.size := by omega
          have hb2 : wo.heap.size + 1 + 1 < wr.heap.size := by omega
          have hb1 : wo.heap.size + 1 < wr.heap.size := by omega
          have R1 := Lib.hid hT
          clear hT hstep hsq hx2 hst hcells hv hBq o1 o2 o3 o4
          by_cases hcj : c = (j : Int)
          · have t1 : (c == (j : Int)) = true := by simp [hcj]
            have R2 := Lib.hid hcj
            clear hcj
            go_wp2_with fail
            go_region_with (go_at_call 44; refine (next_any p mm bit _ w1' w2' v3).mono ?_; unfold stV; rintro en w' ⟨rfl, d1, d2, d3, rfl⟩)
            all_goals
              go_wp2_with fail
              go_roundw
              case rel =>
                refine ⟨q + 1, by omega, by go_num, ?_, ?_, ?_, ?_⟩
                · exact ((((((O1.out.setCell _ (by simp; omega) _).setCell _ (by simp; omega) _).alloc _).alloc _).alloc _).drew)
                · exact ((((((O2.out.other _ (by simp; try omega) _).other _ (by simp; try omega) _).alloc _).alloc _).alloc _).drew)
                · exact ((((((O3.out.other _ (by simp; try omega) _).other _ (by simp; try omega) _).alloc _).alloc _).alloc _).drew)
                · rw [R1.out, if_pos R2.out]
                  exact (((((O4.out.set 0 _).set 1 _).alloc _).alloc _).alloc _).drew
              case measure => simp [intOf]; omega
          · have t1 : (c == (j : Int)) = false := by simp [hcj]
            have R2 := Lib.hid hcj
            clear hcj
            go_wp2_with fail
            go_roundw
            case rel =>
              refine ⟨q + 1, by omega, by go_num, O1.out, O2.out, O3.out, ?_⟩
              rw [R1.out, if_neg R2.out]
              exact O4.out
            case measure => simp [intOf]; omega
        · obtain rfl : q = f.length := by omega
          rw [List.take_length] at o4
          have hSq := HS.out
          rw [← hSq] at o4
          have e0 : wr.cell? ⟨wo.heap.size + 1 + 1 + 1 + 1 + 1, 0, none⟩ = some (.int .u8 (S.T j).p) := (o4.cell 0).trans rfl
          have e1 : wr.cell? ⟨wo.heap.size + 1 + 1 + 1 + 1 + 1, 1, none⟩ = some (.int .u8 (S.T j).m) := (o4.cell 1).trans rfl
          have e2 : wr.cell? ⟨wo.heap.size + 1 + 1 + 1, 0, none⟩ = some (.int .u8 (S.T j).p) := (o3.cell 0).trans rfl
          have e3 : wr.cell? ⟨wo.heap.size + 1 + 1 + 1, 1, none⟩ = some (.int .u8 (S.T j).m) := (o3.cell 1).trans rfl
          have e4 : wr.cell? ⟨wo.heap.size + 1, 0, none⟩ = some (.int .u8 (S.T j).p) := (o2.cell 0).trans rfl
          have e5 : wr.cell? ⟨wo.heap.size + 1, 1, none⟩ = some (.int .u8 (S.T j).m) := (o2.cell 1).trans rfl
          clear hSq o1 o2 o3 o4
          go_wp2_with fail
          go_roundw
          case rel => exact ⟨j + 1, by omega, by go_num, M1.out.trans O1.out (by simp), M2.out.only O1.out (by simp), M3.out.only O1.out (by simp), M4.out.only O1.out (by simp)⟩
          case measure => simp [intOf]; omega
    · obtain rfl : j = 286 := by omega
      go_wp2_with fail
      refine (alive_any _).mono ?_
      rintro en w12 ⟨rfl, q1⟩
      have Q := Lib.hid (M1.out.trans q1 (by simp))
      clear q1
      go_wp2_with fail
      go_returns
      exact ⟨rfl, Q.out⟩

end Go.Proofs.Ytbpdhfenomebpaa
