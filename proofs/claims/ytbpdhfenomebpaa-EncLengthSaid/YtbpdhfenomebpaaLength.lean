/-
  EncLength: the number of bits that are written lies between the law's two sums. No condition.
-/
import Derived.Test.YtbpdhfenomebpaaAlive
namespace Sp

def loN (l : List Bn) : Nat → Nat
  | 0 => 9
  | k + 1 => loN l k + (if (l.getD k (0, 0)).1 < 0 then 1 else 0)

def hiN (stops : Nat) (l : List Bn) : Nat → Nat
  | 0 => 9
  | k + 1 => hiN stops l k + (if (l.getD k (0, 0)).1 < 0 then 1 else 6) + (if 0 < stops ∧ k % stops = 0 then 1 else 0)

theorem loN_le (l : List Bn) (k : Nat) : loN l k ≤ 9 + k := by
  induction k with
  | zero => exact Nat.le_refl _
  | succ k ih => unfold loN; split <;> omega

theorem hiN_le (stops : Nat) (l : List Bn) (k : Nat) : hiN stops l k ≤ 9 + 7 * k := by
  induction k with
  | zero => exact Nat.le_refl _
  | succ k ih => unfold hiN; split <;> split <;> omega

theorem ren_k (e : E) (m : Nat) (h0 : 1 ≤ e.r) (hr : e.r ≤ 510) (hm : 510 < e.r * 2 ^ (m + 1)) : e.d ≤ (ren e).d ∧ (ren e).d ≤ e.d + m := by
  obtain ⟨k, _, he, _, hh⟩ := renN_spec 9 e h0 (by rw [pow9]; omega) hr
  unfold ren
  rw [he]
  simp only []
  refine ⟨by omega, ?_⟩
  rcases Nat.lt_or_ge m k with h | h
  · have h1 : 2 ^ (m + 1) ≤ 2 ^ k := Nat.pow_le_pow_right (by decide) h
    have h2 : e.r * 2 ^ (m + 1) ≤ e.r * 2 ^ k := Nat.mul_le_mul_left _ h1
    omega
  · omega

theorem reg_k {e : E} (h : e.ok) (s : St) (b : Nat) : e.d ≤ (e.reg s b).d ∧ (e.reg s b).d ≤ e.d + 6 := by
  obtain ⟨hs, hl, hh⟩ := h
  obtain ⟨g1, g2⟩ := share_fits s.p hl hh
  unfold E.reg
  split
  · exact ren_k ⟨e.c, e.d, e.r - share s.p (e.r / 64 % 4)⟩ 6 (by simp only []; omega) (by simp only []; omega) (by simp only []; omega)
  · exact ren_k ⟨e.c + (e.r - share s.p (e.r / 64 % 4)), e.d, share s.p (e.r / 64 % 4)⟩ 6 (by simp only []; omega) (by simp only []; omega) (by simp only []; omega)

theorem byp_k (e : E) (b : Nat) : (e.byp b).d = e.d + 1 := by unfold E.byp; split <;> rfl

theorem stop0_k {e : E} (h : e.ok) : e.d ≤ e.stop0.d ∧ e.stop0.d ≤ e.d + 1 := by
  obtain ⟨hs, hl, hh⟩ := h
  exact ren_k ⟨e.c, e.d, e.r - 2⟩ 1 (by simp only []; omega) (by simp only []; omega) (by simp only []; omega)

theorem run_between (stops : Nat) (l : List Bn) (s : TE) (h : s.ok) (hd : s.e.d = 0) (hl : ∀ x ∈ l, x.ok) (k : Nat) (hk : k ≤ l.length) :
    loN l k ≤ 9 + (TE.runS stops 0 (l.take k) s).e.d ∧ 9 + (TE.runS stops 0 (l.take k) s).e.d ≤ hiN stops l k := by
  induction k with
  | zero => simp [TE.runS, loN, hiN, hd]
  | succ k ih =>
    obtain ⟨i1, i2⟩ := ih (by omega)
    have hok := TE.runS_ok stops 0 (l := l.take k) h (fun x hx => hl x (List.mem_of_mem_take hx))
    have hx := hl l[k] (List.getElem_mem _)
    rw [TE.runS_take stops l s k (by omega)]
    generalize TE.runS stops 0 (l.take k) s = sk at i1 i2 hok
    have hg : l.getD k (0, 0) = l[k] := by simp [List.getD_eq_getElem?_getD, show k < l.length by omega]
    unfold loN hiN
    rw [hg]
    have hb : (sk.e.d + (if l[k].1 < 0 then 1 else 0) ≤ (sk.bin l[k]).e.d) ∧ (sk.bin l[k]).e.d ≤ sk.e.d + (if l[k].1 < 0 then 1 else 6) := by
      unfold TE.bin
      split
      · simp only [byp_k]; omega
      · have := reg_k hok.e (sk.T l[k].1.toNat) l[k].2
        simp only []
        omega
    have hok2 := TE.bin_ok hok hx
    unfold TE.stepS
    by_cases h : 0 < stops ∧ k % stops = 0
    · rw [if_pos h, if_pos h]
      have := stop0_k hok2.e
      simp only [TE.stop]
      omega
    · rw [if_neg h, if_neg h]
      omega

theorem out_len (e : E) : e.out.length = 9 + e.d := by unfold E.out; rw [bitsOf_length]

end Sp
namespace Go.Proofs.Ytbpdhfenomebpaa
open Go.RowKit Sp

theorem txt_len (L : List Nat) : (txt L).size = L.length := txt_size L

set_option maxRecDepth 100000 in
set_option maxHeartbeats 1600000 in
theorem length_any {w : World} {a : Option Addr} {cap : Nat} {G : List Nat} {l : List Bn} (cl qp st : Int) (h1 : -9223372036854775808 ≤ cl ∧ cl ≤ 9223372036854775807) (h2 : -9223372036854775808 ≤ qp ∧ qp ≤ 9223372036854775807)
    (h3 : -9223372036854775808 ≤ st ∧ st ≤ 9223372036854775807) (hl : BinsIn w (.slice a l.length cap) G l) (hlen : l.length ≤ 9223372036854775807)
    (hwf : ∀ x ∈ l, -9223372036854775808 ≤ x.1 ∧ x.1 ≤ 9223372036854775807 ∧ x.2 < 256) :
    Calls Try.prog 6 #[.int .i64 cl, .int .i64 qp, .int .i64 st, .slice a l.length cap] w fun en w' => en = .returned (.bool true) ∧ Only [] w w' := by
  have r1 := restN_lt cl 4 (by decide)
  have r2 := restN_lt qp 52 (by decide)
  have r3 := restN_lt st 5 (by decide)
  have HF := Lib.hid hl
  have HW := Lib.hid hwf
  clear hl hwf
  go_enter Try.func6, Try.ntmps6
  go_wp2_with fail
  refine (rest_any cl 4 (by decide) (by decide) h1.1 h1.2).mono ?_
  rintro en w1 ⟨rfl, rfl⟩
  go_wp2_with fail
  refine (rest_any qp 52 (by decide) (by decide) h2.1 h2.2).mono ?_
  rintro en w1 ⟨rfl, rfl⟩
  go_wp2_with fail
  refine (rest_any st 5 (by decide) (by decide) h3.1 h3.2).mono ?_
  rintro en w1 ⟨rfl, rfl⟩
  go_wp2_with fail
  refine (fit_any HF.out hlen HW.out).mono ?_
  rintro en w1 ⟨u, rfl, q1, q2, q3⟩
  obtain ⟨a2, cap2, rfl⟩ := q1.form
  have A1 := Lib.hid q1
  have A2 := Lib.hid q3
  clear q1 q2 q3
  have hfl := fit_len l
  obtain ⟨f, hf⟩ : ∃ f, f = fit l := ⟨_, rfl⟩
  rw [← hf] at A1 hfl
  have hfo : ∀ x ∈ f, x.ok := by rw [hf]; exact fit_ok l
  rw [← hf]
  have HO := Lib.hid hfo
  clear hfo hf
  go_wp2_with fail
  refine (code_any (restN cl 4) (restN qp 52) (restN st 5) (by omega) (by omega) (by omega) A1.out HO.out (by omega)).mono ?_
  rintro en w2 ⟨bt, rfl, _, _, q1⟩
  have B1 := Lib.hid (A1.out.only q1 (by simp))
  have B2 := Lib.hid (A2.out.trans q1 (by simp))
  clear q1
  go_wp2_with fail
  obtain ⟨sp, hsp⟩ : ∃ sp, sp = restN st 5 := ⟨_, rfl⟩
  rw [← hsp] at r3
  rw [← hsp]
  obtain ⟨L, hL⟩ : ∃ L, L = (TE.runS sp 0 f (start (restN cl 4) (restN qp 52))).e.out := ⟨_, rfl⟩
  have hbt := run_between sp f (start (restN cl 4) (restN qp 52)) ⟨E.ini_ok, fun i => ini_ok i _ _⟩ rfl HO.out f.length (Nat.le_refl _)
  rw [List.take_length, ← out_len, ← hL] at hbt
  rw [← hL]
  have HB := Lib.hid hbt
  clear hsp hL hbt
  go_loop [12, 13, 14] (fun lo hi i => ∃ k : Nat, k ≤ f.length ∧ i = .int .i64 k ∧ lo = .int .i64 (loN f k) ∧ hi = .int .i64 (hiN sp f k)) (fun _ _ i => f.length - (intOf i).toNat)
  case atStart => exact ⟨0, Nat.zero_le _, rfl, rfl, rfl⟩
  case round =>
    obtain ⟨k, hk, rfl, rfl, rfl⟩ := hrel
    have b1 := loN_le f k
    have b2 := hiN_le sp f k
    by_cases hlt : k < f.length
    · rcases B1.out.here with hnil | ⟨g, off, cap3, hv, _, hg, hcp, hm, hcells⟩
      · exfalso; rw [hnil] at hlt; simp at hlt
      obtain ⟨rfl, rfl⟩ : a2 = some ⟨g, off, none⟩ ∧ cap2 = cap3 := by simpa using hv
      obtain ⟨k0, _⟩ := hcells k hlt
      have hgd : f.getD k (0, 0) = f[k] := by simp [List.getD_eq_getElem?_getD, hlt]
      have e1 : loN f (k + 1) = loN f k + (if f[k].1 < 0 then 1 else 0) := by rw [← hgd]; rfl
      have e2 : hiN sp f (k + 1) = hiN sp f k + (if f[k].1 < 0 then 1 else 6) + (if 0 < sp ∧ k % sp = 0 then 1 else 0) := by rw [← hgd]; rfl
      obtain ⟨c, hc⟩ : ∃ c, c = f[k].1 := ⟨_, rfl⟩
      rw [← hc] at k0 e1 e2
      clear hcells hv hgd hc
      generalize hlo : loN f (k + 1) = lo1 at e1
      generalize hhi : hiN sp f (k + 1) = hi1 at e2
      have E1 := Lib.hid hlo
      have E2 := Lib.hid hhi
      clear hlo hhi
      generalize loN f k = lo0 at *
      generalize hiN sp f k = hi0 at *
      by_cases hc0 : c < 0
      · rw [if_pos hc0] at e1 e2
        by_cases hs0 : 0 < sp
        · by_cases hm0 : k % sp = 0
          · have t1 : ((k : Int) % (sp : Int) == 0) = true := by rw [beq_iff_eq]; exact_mod_cast hm0
            rw [if_pos ⟨hs0, hm0⟩] at e2
            have F1 := Lib.hid e1
            have F2 := Lib.hid e2
            clear e1 e2 hm0
            go_wp2_with fail
            go_round
            case rel => exact ⟨k + 1, by omega, by go_num, by rw [E1.out, F1.out]; go_num, by rw [E2.out, F2.out]; go_num⟩
            case measure => simp [intOf]; omega
          · have t1 : ((k : Int) % (sp : Int) == 0) = false := by simp; omega
            rw [if_neg (fun h => hm0 h.2)] at e2
            have F1 := Lib.hid e1
            have F2 := Lib.hid e2
            clear e1 e2 hm0
            go_wp2_with fail
            go_round
            case rel => exact ⟨k + 1, by omega, by go_num, by rw [E1.out, F1.out]; go_num, by rw [E2.out, F2.out]; go_num⟩
            case measure => simp [intOf]; omega
        · rw [if_neg (fun h => hs0 h.1)] at e2
          have F1 := Lib.hid e1
          have F2 := Lib.hid e2
          clear e1 e2
          go_wp2_with fail
          go_round
          case rel => exact ⟨k + 1, by omega, by go_num, by rw [E1.out, F1.out]; go_num, by rw [E2.out, F2.out]; go_num⟩
          case measure => simp [intOf]; omega
      · rw [if_neg hc0] at e1 e2
        by_cases hs0 : 0 < sp
        · by_cases hm0 : k % sp = 0
          · have t1 : ((k : Int) % (sp : Int) == 0) = true := by rw [beq_iff_eq]; exact_mod_cast hm0
            rw [if_pos ⟨hs0, hm0⟩] at e2
            have F1 := Lib.hid e1
            have F2 := Lib.hid e2
            clear e1 e2 hm0
            go_wp2_with fail
            go_round
            case rel => exact ⟨k + 1, by omega, by go_num, by rw [E1.out, F1.out]; go_num, by rw [E2.out, F2.out]; go_num⟩
            case measure => simp [intOf]; omega
          · have t1 : ((k : Int) % (sp : Int) == 0) = false := by simp; omega
            rw [if_neg (fun h => hm0 h.2)] at e2
            have F1 := Lib.hid e1
            have F2 := Lib.hid e2
            clear e1 e2 hm0
            go_wp2_with fail
            go_round
            case rel => exact ⟨k + 1, by omega, by go_num, by rw [E1.out, F1.out]; go_num, by rw [E2.out, F2.out]; go_num⟩
            case measure => simp [intOf]; omega
        · rw [if_neg (fun h => hs0 h.1)] at e2
          have F1 := Lib.hid e1
          have F2 := Lib.hid e2
          clear e1 e2
          go_wp2_with fail
          go_round
          case rel => exact ⟨k + 1, by omega, by go_num, by rw [E1.out, F1.out]; go_num, by rw [E2.out, F2.out]; go_num⟩
          case measure => simp [intOf]; omega
    · obtain rfl : k = f.length := by omega
      obtain ⟨d1, d2⟩ := HB.out
      have hs := txt_len L
      generalize txt L = tx at *
      generalize loN f f.length = lo0 at *
      generalize hiN sp f f.length = hi0 at *
      generalize L.length = Ln at *
      have t1 : ((lo0 : Int) ≤ (tx.size : Int)) := by omega
      have t2 : ((tx.size : Int) ≤ (hi0 : Int)) := by omega
      have H1 := Lib.hid hs
      clear hs
      go_wp2_with fail
      refine (alive_any _).mono ?_
      rintro en w3 ⟨rfl, q1⟩
      have C2 := Lib.hid (B2.out.trans q1 (by simp))
      clear q1
      go_wp2_with fail
      go_returns
      exact ⟨rfl, C2.out⟩

end Go.Proofs.Ytbpdhfenomebpaa
