/-
  The encoder: Bins and Put.
-/
import Derived.Test.YtbpdhfenomebpaaEnc4
import Derived.Test.YtbpdhfenomebpaaSeq
import Derived.Laws.EntriesVeiled
namespace Go.Proofs.Ytbpdhfenomebpaa
open Go.RowKit Sp

/-- The slice v holds the bins l; G: its block, if there is one. -/
structure BinsIn (w : World) (v : Value) (G : List Nat) (l : List Bn) : Prop where
  form : ∃ a cap, v = .slice a l.length cap
  here : l = [] ∨ ∃ g off cap, v = .slice (some ⟨g, off, none⟩) l.length cap ∧ G = [g] ∧ g < w.heap.size ∧ l.length ≤ cap ∧ cap ≤ 9223372036854775807 ∧
    ∀ k (h : k < l.length), w.cell? ⟨g, off + k * 2, none⟩ = some (.int .i64 l[k].1) ∧ w.cell? ⟨g, off + k * 2 + 1, none⟩ = some (.int .u8 l[k].2)

theorem BinsIn.only {w w' : World} {v : Value} {G S : List Nat} {l : List Bn} (h : BinsIn w v G l) (ho : Only S w w') (hS : ∀ g ∈ G, g ∉ S) : BinsIn w' v G l := by
  refine ⟨h.form, ?_⟩
  rcases h.here with h | ⟨g, off, cap, hv, hG, hg, hc, hm, hk⟩
  · exact .inl h
  · have hgS : g ∉ S := hS g (by rw [hG]; simp)
    have e : ∀ o, w'.cell? ⟨g, o, none⟩ = w.cell? ⟨g, o, none⟩ := fun o => World.cell?_of_block (ho.block g hg hgS)
    exact .inr ⟨g, off, cap, hv, hG, Nat.lt_of_lt_of_le hg ho.size, hc, hm, fun k hk' => by rw [e, e]; exact hk k hk'⟩

theorem updT_eq : updT = upd := rfl

set_option maxRecDepth 100000 in
set_option maxHeartbeats 3200000 in
theorem bins_ok_any {w : World} {b bw bt : Nat} {H G : List Nat} {s : TE} {v : Value} {l : List Bn} (h : Enc w b bw bt H s.e) (hok : s.ok) (hT : Tab w bt s.T) (hbt : bt ∉ b :: H) (hl : BinsIn w v G l)
    (hG : ∀ g ∈ G, g ∉ bt :: b :: H) (hv : ∀ x ∈ l, x.ok) (hd : s.e.d + 9 * l.length ≤ 1000000000000) :
    Calls Try.prog 24 #[.pointer (some ⟨b, 0, none⟩), v] w fun en w' => en = .returned (.int .i64 0) ∧
      ∃ H', Enc w' b bw bt H' (s.bins l).e ∧ Tab w' bt (s.bins l).T ∧ (∀ x ∈ H', x ∈ H ∨ w.heap.size ≤ x) ∧ Only (bt :: b :: H) w w' := by
  obtain ⟨a0, cap0, rfl⟩ := hl.form
  have hb := h.lt
  have hbk : ∀ j, b < w.heap.size + j := fun j => by omega
  obtain ⟨_, _, _, _, c5, _⟩ := h.cells
  have HE := Lib.hid h
  have HT := Lib.hid hT
  have HL := Lib.hid hl
  have HV := Lib.hid hv
  have HOK := Lib.hid hok
  clear h hT hl hv hok
  go_enter Try.func24, Try.ntmps24
  go_wp2_with fail
  go_loopw [18] (fun i wr => ∃ k : Nat, k ≤ l.length ∧ i = .int .i64 k ∧ Only [] w wr) (fun i _ => l.length - (intOf i).toNat)
  case atStart => exact ⟨0, Nat.zero_le _, rfl, Only.refl _ _⟩
  case round =>
    obtain ⟨k, hk, rfl, ho⟩ := hrel
    by_cases hlt : k < l.length
    · obtain ⟨v1, v2, v3⟩ := HV.out l[k] (List.getElem_mem _)
      have hL := HL.out.only ho (by simp)
      rcases hL.here with hnil | ⟨g, off, cap, hv, _, hg, hc, hm, hcells⟩
      · exfalso; rw [hnil] at hlt; simp at hlt
      obtain ⟨rfl, rfl⟩ : a0 = some ⟨g, off, none⟩ ∧ cap0 = cap := by simpa using hv
      obtain ⟨k0, k1⟩ := hcells k hlt
      have HO := Lib.hid ho
      clear ho hL hcells hv
      go_wp2_with fail
      go_roundw
      case rel => exact ⟨k + 1, by omega, by go_num, HO.out.alloc _⟩
      case measure => simp [intOf]; omega
    · obtain rfl : k = l.length := by omega
      have HO := Lib.hid ho
      clear ho
      obtain ⟨wo, rfl⟩ : ∃ wo : World, wo = wr := ⟨_, rfl⟩
      go_wp2_with fail
      go_loopw [43] (fun i wr => ∃ (k : Nat) (H' : List Nat), k ≤ l.length ∧ i = .int .i64 k ∧ Enc wr b bw bt H' (s.bins (l.take k)).e ∧ Tab wr bt (s.bins (l.take k)).T ∧ (∀ x ∈ H', x ∈ H ∨ w.heap.size ≤ x) ∧ Only (bt :: b :: H) w wr ∧
        Blk wr wo.heap.size #[.func (.func 88) #[.pointer (some ⟨b, 0, none⟩)] #[], .func (.func 89) #[.pointer (some ⟨b, 0, none⟩)] #[]] 155 ∧ (∀ x ∈ H', x ≠ wo.heap.size)) (fun i _ => l.length - (intOf i).toNat)
      case atStart =>
        exact ⟨0, H, Nat.zero_le _, rfl, (HE.out.only HO.out (by simp) (by simp)).only ((Only.refl [] wo).alloc _) (by simp) (by simp), (HT.out.only HO.out (by simp)).only ((Only.refl [] wo).alloc _) (by simp), fun x hx => .inl hx, (HO.out.mono (by simp)).alloc _, Blk.new _ _ _, fun x hx e => by have := HE.out.fresh x hx; have := HO.out.size; omega⟩
      case round =>
        obtain ⟨k, H', hk, rfl, hE, hT, hH, hO, hB, hN⟩ := hrel
        by_cases hlt : k < l.length
        · obtain ⟨v1, v2, v3⟩ := HV.out l[k] (List.getElem_mem _)
          have hL := HL.out.only hO hG
          rcases hL.here with hnil | ⟨g, off, cap, hv, _, hg, hc, hm, hcells⟩
          · exfalso; rw [hnil] at hlt; simp at hlt
          obtain ⟨rfl, rfl⟩ : a0 = some ⟨g, off, none⟩ ∧ cap0 = cap := by simpa using hv
          obtain ⟨k0, k1⟩ := hcells k hlt
          have hgk : ∀ j, g < wr.heap.size + j := fun j => by omega
          have hB0 : wr.cell? ⟨wo.heap.size, 0, none⟩ = some (.func (.func 88) #[.pointer (some ⟨b, 0, none⟩)] #[]) := (hB.cell 0).trans rfl
          have hB1 : wr.cell? ⟨wo.heap.size, 1, none⟩ = some (.func (.func 89) #[.pointer (some ⟨b, 0, none⟩)] #[]) := (hB.cell 1).trans rfl
          have hBl := hB.lt
          have hBk : ∀ j, wo.heap.size < wr.heap.size + j := fun j => by omega
          have hstep := TE.bins_take (s := s) l k hlt
          obtain ⟨sk, hsk⟩ : ∃ sk, sk = s.bins (l.take k) := ⟨_, rfl⟩
          rw [← hsk] at hE hT hstep
          have hskok : sk.ok := by rw [hsk]; exact TE.bins_ok HOK.out (fun x hx => HV.out x (List.mem_of_mem_take hx))
          have hskd : sk.e.d ≤ 1000000000000 := by
            have := TE.bins_d HOK.out (l := l.take k) (fun x hx => HV.out x (List.mem_of_mem_take hx))
            rw [← hsk, List.length_take] at this
            omega
          obtain ⟨⟨c, bit⟩, hx⟩ : ∃ x : Bn, x = l[k] := ⟨_, rfl⟩
          rw [← hx] at k0 k1 v1 v2 v3 hstep
          simp only [] at k0 k1 v1 v2 v3
          have P1 := Lib.hid hE
          have P2 := Lib.hid hT
          have P3 := Lib.hid hH
          have P4 := Lib.hid hO
          have P5 := Lib.hid hB
          have P6 := Lib.hid hN
          have P7 := Lib.hid hstep
          have P8 := Lib.hid hskok
          clear hE hT hH hO hB hN hstep hskok hL hcells hx hsk hv
          have hA : Only [] wr (wr.alloc (.cells #[.int .i64 c, .int .u8 bit] 25)) := (Only.refl [] wr).alloc _
          have Q1 := Lib.hid (P1.out.only hA (by simp) (by simp))
          have Q2 := Lib.hid (P2.out.only hA (by simp))
          have Q3 := Lib.hid (P5.out.only hA (by simp))
          have Q4 := Lib.hid (P4.out.trans hA (by simp))
          clear hA
          have hwo : w.heap.size ≤ wo.heap.size := HO.out.size
          have hbt2 : bt < w.heap.size := HT.out.lt
          have hbtH : bt ∉ b :: H' := by
            intro x
            rcases List.mem_cons.1 x with x | x
            · exact hbt (by simp [x])
            · rcases P3.out bt x with x | x
              · exact hbt (List.mem_cons_of_mem _ x)
              · omega
          have hwoS : wo.heap.size ∉ bt :: b :: H' := by
            intro x
            rcases List.mem_cons.1 x with x | x
            · omega
            · rcases List.mem_cons.1 x with x | x
              · omega
              · exact P6.out _ x rfl
          have Q5 := Lib.hid hbtH
          have Q6 := Lib.hid hwoS
          have Q7 : Hid (∀ (w3 : World) (H2 : List Nat) (S : List Nat), Enc w3 b bw bt H2 (sk.bin (c, bit)).e → Tab w3 bt (sk.bin (c, bit)).T → (∀ x ∈ S, x ∈ bt :: b :: H') →
              (∀ x ∈ H2, x ∈ H' ∨ (wr.alloc (.cells #[.int .i64 c, .int .u8 bit] 25)).heap.size ≤ x) → Only S (wr.alloc (.cells #[.int .i64 c, .int .u8 bit] 25)) w3 →
              Enc w3 b bw bt H2 (s.bins (l.take (k + 1))).e ∧ Tab w3 bt (s.bins (l.take (k + 1))).T ∧ (∀ x ∈ H2, x ∈ H ∨ w.heap.size ≤ x) ∧ Only (bt :: b :: H) w w3 ∧
              Blk w3 wo.heap.size #[.func (.func 88) #[.pointer (some ⟨b, 0, none⟩)] #[], .func (.func 89) #[.pointer (some ⟨b, 0, none⟩)] #[]] 155 ∧ (∀ x ∈ H2, x ≠ wo.heap.size)) := by
            intro w3 H2 S r1 r2 r3 r4 r5
            rw [P7.out]
            refine ⟨r1, r2, ?_, ?_, Q3.out.only r5 (fun x => Q6.out (r3 _ x)), ?_⟩
            · intro x hx
              rcases r4 x hx with y | y
              · exact P3.out x y
              · have := Q4.out.size; exact .inr (by omega)
            · refine Q4.out.trans r5 (fun x hx => ?_)
              rcases List.mem_cons.1 (r3 x hx) with y | y
              · exact .inl (by rw [y]; simp)
              · rcases List.mem_cons.1 y with y | y
                · exact .inl (by rw [y]; simp)
                · rcases P3.out x y with y | y
                  · exact .inl (List.mem_cons_of_mem _ (List.mem_cons_of_mem _ y))
                  · exact .inr y
            · intro x hx
              rcases r4 x hx with y | y
              · exact P6.out x y
              · simp at y; omega
          clear hbtH hwoS
          by_cases hc0 : c < 0
          · have HC := Lib.hid hc0
            go_wp2_with fail
            refine (bypass_any Q1.out P8.out.e hskd c bit v3).mono ?_
            rintro en w3 ⟨rfl, H2, r1, r2, r3⟩
            have R := Q7.out w3 H2 (b :: H') (by unfold TE.bin; rw [if_pos HC.out]; exact r1) (by unfold TE.bin; rw [if_pos HC.out]; exact Q2.out.only r3 Q5.out) (fun x hx => List.mem_cons_of_mem _ hx) r2 r3
            have RH := Lib.hid R
            clear R r1 r2 r3
            go_wp2_with fail
            go_roundw
            case rel => exact ⟨k + 1, H2, by omega, by go_num, RH.out⟩
            case measure => simp [intOf]; omega
          · obtain ⟨i, rfl⟩ := Int.eq_ofNat_of_zero_le (show 0 ≤ c by omega)
            clear hc0
            go_wp2_with fail
            refine (regular_any Q1.out P8.out.e hskd Q2.out Q5.out i bit (by omega) v3).mono ?_
            rintro en w3 ⟨rfl, H2, r1, r2, r3, r4⟩
            have R := Q7.out w3 H2 (bt :: b :: H') (by unfold TE.bin; rw [if_neg (by simp only []; omega)]; exact r1) (by unfold TE.bin; rw [if_neg (by simp only []; omega)]; exact r2) (fun x hx => hx) r3 r4
            have RH := Lib.hid R
            clear R r1 r2 r3 r4
            go_wp2_with fail
            go_roundw
            case rel => exact ⟨k + 1, H2, by omega, by go_num, RH.out⟩
            case measure => simp [intOf]; omega
        · obtain rfl : k = l.length := by omega
          rw [List.take_length] at hE hT
          have A := Lib.hid hE
          have B := Lib.hid hT
          have C := Lib.hid hH
          have D := Lib.hid hO
          clear hE hT hH hO hB hN
          go_wp2_with fail
          go_returns
          exact ⟨by simp, H', A.out, B.out, C.out, D.out⟩

end Go.Proofs.Ytbpdhfenomebpaa
