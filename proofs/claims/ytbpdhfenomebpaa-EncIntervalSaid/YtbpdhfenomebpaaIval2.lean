/-
  EncInterval: the bits are the odd number in the interval that is divided bin by bin. No condition.
-/
import Derived.Test.YtbpdhfenomebpaaIval
namespace Go.Proofs.Ytbpdhfenomebpaa
open Go.RowKit Sp

theorem plus_low {w : World} {g cap c d r n m : Nat} (hm : m = 9 + d) (h : Sl w 5 1 (.slice (some ⟨g, 0, none⟩) m cap) m ((low ⟨c, d, r⟩).map byteV)) (hf : c + n < 510 * 2 ^ d) (hn : n ≤ 1000000) (hd : d ≤ 100000) (r' : Nat) :
    Calls Try.prog 41 #[.slice (some ⟨g, 0, none⟩) m cap, .int .i64 n] w fun en w' => ∃ g' cap', en = .returned (.slice (some ⟨g', 0, none⟩) m cap') ∧ w.heap.size ≤ g' ∧
      Sl w' 5 1 (.slice (some ⟨g', 0, none⟩) m cap') m ((low ⟨c + n, d, r'⟩).map byteV) ∧ Only [] w w' := by
  have hl := low_len ⟨c, d, r⟩
  simp only [] at hl
  rw [← hl] at hm
  subst hm
  have := plus_any h (low_le _) (by omega) (by omega) n hn (low_fit hf)
  rw [low_plus (r' := r') (by omega)] at this
  exact this

theorem low_snoc (c d r r' : Nat) : (low ⟨c, d, r⟩).map byteV ++ [.int .u8 0] = (low ⟨2 * c, d + 1, r'⟩).map byteV := by
  rw [← low_app c d r r', List.map_append]
  rfl

/-- The doublings that are left. -/
theorem ren_step {e e0 : E} {f : Nat} (h : renN (f + 1) e = ren e0) (hr : e.r < 256) : renN f ⟨2 * e.c, e.d + 1, 2 * e.r⟩ = ren e0 := by
  rw [← h]; simp only [renN]; rw [if_pos hr]

theorem ren_stay {e e0 : E} {f : Nat} (h : renN f e = ren e0) (hr : ¬ e.r < 256) : e = ren e0 := by
  rw [← h]
  cases f with
  | zero => rfl
  | succ f => simp only [renN]; rw [if_neg hr]

theorem fits_dbl {c d r : Nat} (h : E.fits ⟨c, d, r⟩) (hr : r < 256) : E.fits ⟨2 * c, d + 1, 2 * r⟩ := by
  obtain ⟨h1, h2, h3⟩ := h
  simp only [] at h1 h2 h3
  exact ⟨by simp only [Nat.pow_succ']; omega, by simp only []; omega, by simp only []; omega⟩

/-- Where the interval's walk stands: the digits, the size, the map. -/
structure Iv (w0 w : World) (B : Nat) (T0 : Nat → St) (e : E) (T : Nat → St) (n : Nat) (lowv szv : Value) : Prop where
  only : Only [B] w0 w
  fits : e.fits
  here : ∃ g cap, lowv = .slice (some ⟨g, 0, none⟩) (9 + e.d) cap ∧ w0.heap.size ≤ g ∧ Sl w 5 1 (.slice (some ⟨g, 0, none⟩) (9 + e.d) cap) (9 + e.d) ((low e).map byteV)
  size : szv = .int .i64 e.r
  map : ∃ D, MapT w B n T0 T D
  B : B < w0.heap.size

theorem Iv.next {w0 w w' : World} {B n : Nat} {T0 T : Nat → St} {e : E} {lowv szv : Value} (h : Iv w0 w B T0 e T n lowv szv) (ho : Only [] w w') : Iv w0 w' B T0 e T n lowv szv := by
  obtain ⟨h1, h2, ⟨g, cap, h3, h4, h5⟩, h6, ⟨D, h7⟩, h8⟩ := h
  exact ⟨h1.trans ho (by simp), h2, ⟨g, cap, h3, h4, h5.only ho (by simp)⟩, h6, ⟨D, h7.only ho (by simp)⟩, h8⟩

theorem ren_big {e : E} (h : 256 ≤ e.r) : ren e = e := by
  unfold ren
  simp only [renN]
  rw [if_neg (by omega)]

theorem Iv.mono {w0 w : World} {B n n' : Nat} {T0 T : Nat → St} {e : E} {lowv szv : Value} (h : Iv w0 w B T0 e T n lowv szv) (hn : n ≤ n') : Iv w0 w B T0 e T n' lowv szv := by
  obtain ⟨h1, h2, h3, h6, ⟨D, h7⟩, h8⟩ := h
  exact ⟨h1, h2, h3, h6, ⟨D, h7.mono hn⟩, h8⟩

/-- Another row of digits. -/
theorem Iv.row {w0 w w' : World} {B n : Nat} {T0 T : Nat → St} {e e' : E} {lowv szv : Value} {g cap : Nat} {S : List Nat} (h : Iv w0 w B T0 e T n lowv szv) (ho : Only S w w') (hS : ∀ x ∈ S, w0.heap.size ≤ x) (hf : e'.fits) (hg : w0.heap.size ≤ g)
    (hs : Sl w' 5 1 (.slice (some ⟨g, 0, none⟩) (9 + e'.d) cap) (9 + e'.d) ((low e').map byteV)) : Iv w0 w' B T0 e' T n (.slice (some ⟨g, 0, none⟩) (9 + e'.d) cap) (.int .i64 e'.r) := by
  obtain ⟨h1, h2, _, _, ⟨D, h7⟩, h8⟩ := h
  exact ⟨h1.trans ho (fun x hx => .inr (hS x hx)), hf, ⟨g, cap, rfl, hg, hs⟩, rfl, ⟨D, h7.only ho (fun hm => by have := hS B hm; omega)⟩, h8⟩

set_option maxRecDepth 100000 in
set_option maxHeartbeats 40000000 in
theorem interval_any {w : World} {a : Option Addr} {cap : Nat} {G : List Nat} {l : List Bn} (cl qp st : Int) (h1 : -9223372036854775808 ≤ cl ∧ cl ≤ 9223372036854775807) (h2 : -9223372036854775808 ≤ qp ∧ qp ≤ 9223372036854775807)
    (h3 : -9223372036854775808 ≤ st ∧ st ≤ 9223372036854775807) (hl : BinsIn w (.slice a l.length cap) G l) (hlen : l.length ≤ 9223372036854775807)
    (hwf : ∀ x ∈ l, -9223372036854775808 ≤ x.1 ∧ x.1 ≤ 9223372036854775807 ∧ x.2 < 256) :
    Calls Try.prog 5 #[.int .i64 cl, .int .i64 qp, .int .i64 st, .slice a l.length cap] w fun en w' => en = .returned (.bool true) ∧ Only [] w w' := by
  have r1 := restN_lt cl 4 (by decide)
  have r2 := restN_lt qp 52 (by decide)
  have r3 := restN_lt st 5 (by decide)
  have HF := Lib.hid hl
  have HW := Lib.hid hwf
  clear hl hwf
  have hmm := @run_makeMap Try.prog
  have hmk : ∀ w, (Instr.makeSlice 70 (.int .i64 9) (.int .i64 9)).run Try.prog w = .ok (.slice (some ⟨w.heap.size, 0, none⟩) 9 9) (w.alloc (.cells #[.int .u8 0, .int .u8 0, .int .u8 0, .int .u8 0, .int .u8 0, .int .u8 0, .int .u8 0, .int .u8 0, .int .u8 0] 5)) := fun _ => by kernel_rfl
  obtain ⟨i0, hi, hz0, hz1, hz2⟩ := info_parts info_u8
  go_enter Try.func5, Try.ntmps5
  go_wp2_with fail
  refine (rest_any cl 4 (by decide) (by decide) h1.1 h1.2).mono ?_
  rintro en w1 ⟨rfl, rfl⟩
  go_wp2_with fail
  refine (rest_any qp 52 (by decide) (by decide) h2.1 h2.2).mono ?_
  rintro en w1 ⟨rfl, rfl⟩
  go_wp2_with fail
  refine (rest_any st 5 (by decide) (by decide) h3.1 h3.2).mono ?_
  rintro en w1 ⟨rfl, rfl⟩
  go_wp2_with fail
  refine (fit_sl HF.out hlen HW.out).mono ?_
  rintro en w1 ⟨u, rfl, q1, q2, q3⟩
  have q0 := q1.bins
  obtain ⟨a2, cap2, rfl⟩ := q0.form
  have hGL : ∀ g ∈ (Value.slice a2 (fit l).length cap2).ownBlock.toList, g < w1.heap.size := fun g hg => q1.lt (by simpa using hg)
  have A1 := Lib.hid q0
  have A2 := Lib.hid q3
  clear q0 q1 q2 q3
  have hfl := fit_len l
  obtain ⟨f, hf⟩ : ∃ f, f = fit l := ⟨_, rfl⟩
  rw [← hf] at A1 hfl hGL
  have hfo : ∀ x ∈ f, x.ok := by rw [hf]; exact fit_ok l
  rw [← hf]
  have HO := Lib.hid hfo
  clear hfo hf
  obtain ⟨GL, hGLe⟩ : ∃ x, x = (Value.slice a2 f.length cap2).ownBlock.toList := ⟨_, rfl⟩
  rw [← hGLe] at A1 hGL
  have GG := Lib.hid hGL
  clear hGL hGLe
  obtain ⟨cl', hcl⟩ : ∃ x, x = restN cl 4 := ⟨_, rfl⟩
  obtain ⟨qp', hqp⟩ : ∃ x, x = restN qp 52 := ⟨_, rfl⟩
  obtain ⟨sp, hsp⟩ : ∃ x, x = restN st 5 := ⟨_, rfl⟩
  rw [← hcl, ← hqp, ← hsp]
  rw [← hcl] at r1
  rw [← hqp] at r2
  rw [← hsp] at r3
  clear hcl hqp hsp
  go_wp2_with fail
  refine (code_any cl' qp' sp (by omega) (by omega) (by omega) A1.out HO.out (by omega)).mono ?_
  rintro en w2 ⟨bt, rfl, p1, p2, p3⟩
  have B1 := Lib.hid (A1.out.only p3 (by simp))
  have B2 := Lib.hid (A2.out.trans p3 (by simp))
  have B4 : Hid (w.heap.size ≤ bt) := Nat.le_trans A2.out.size p1
  have B3 := Lib.hid p2
  clear p1 p2
  have hok0 : (start cl' qp').ok := ⟨E.ini_ok, fun i => ini_ok i _ _⟩
  have hfin := TE.runS_ok sp 0 hok0 HO.out
  have hfd := TE.runS_d sp 0 hok0 HO.out
  rw [show (start cl' qp').e.d = 0 from rfl] at hfd
  obtain ⟨s0, hs0⟩ : ∃ x, x = start cl' qp' := ⟨_, rfl⟩
  rw [← hs0] at B3 hok0 hfin hfd
  rw [← hs0]
  have hT0 : ∀ i, s0.T i = ini i cl' qp' := by rw [hs0]; intro i; rfl
  have hE0 : s0.e = E.ini := by rw [hs0]; rfl
  have Z0 := Lib.hid hok0
  have Z1 := Lib.hid hT0
  have Z2 := Lib.hid hE0
  clear hs0 hok0 hT0 hE0
  obtain ⟨S, hS⟩ : ∃ x, x = TE.runS sp 0 f s0 := ⟨_, rfl⟩
  rw [← hS] at B3 hfin hfd
  rw [← hS]
  have HSS := Lib.hid hS
  clear hS
  have hout := out_length S.e
  have h509 := out_first hfin.e
  have hole : ∀ x ∈ S.e.out, x ≤ 1 := bitsOf_le _ _
  obtain ⟨out, ho⟩ : ∃ x, x = S.e.out := ⟨_, rfl⟩
  rw [← ho] at hout h509 hole
  rw [← ho]
  have e9a : txt (out.take 9) ≠ ⟨#[49, 49, 49, 49, 49, 49, 49, 49, 48]⟩ := by
    intro e
    have := txt_inj (M := [1, 1, 1, 1, 1, 1, 1, 1, 0]) (fun x hx => hole x (List.mem_of_mem_take hx)) (by decide) (e.trans rfl)
    rw [this] at h509
    exact absurd h509 (by decide)
  have e9b : txt (out.take 9) ≠ ⟨#[49, 49, 49, 49, 49, 49, 49, 49, 49]⟩ := by
    intro e
    have := txt_inj (M := [1, 1, 1, 1, 1, 1, 1, 1, 1]) (fun x hx => hole x (List.mem_of_mem_take hx)) (by decide) (e.trans rfl)
    rw [this] at h509
    exact absurd h509 (by decide)
  have hsl := fun W => run_slice_string_h (P := Try.prog) W 9 (txt out) Try.underlying9 .i64 9 (by omega) (by rw [txt_size]; omega)
  have hsl2 : ∀ W, (Instr.slice 9 (.string (txt out)) none (some (.int .i64 9)) none).run Try.prog W = .ok (.string (txt (out.take 9))) W := fun W => by
    rw [hsl W, ← txt_take out 9]; rfl
  clear hsl h509 hole
  have hsz := txt_size out
  obtain ⟨t9, ht9⟩ : ∃ x, x = txt (out.take 9) := ⟨_, rfl⟩
  obtain ⟨t1, ht1⟩ : ∃ x, x = txt out := ⟨_, rfl⟩
  rw [← ht9] at e9a e9b hsl2
  rw [← ht1] at hsl2 hsz
  rw [← ht1]
  have K1 := Lib.hid e9a
  have K2 := Lib.hid e9b
  have K3 := Lib.hid hsl2
  have K4 := Lib.hid (show t1 = txt S.e.out by rw [ht1, ho])
  have K5 := Lib.hid hfin
  have hsz9 : 9 ≤ t1.size := by omega
  have hsz9' : ¬ (t1.size < 9) := by omega
  clear e9a e9b hsl2 ht9 ht1 ho hfin hsz hout
  go_wp2_with fail
  have hIv : Iv (w2.alloc (.map #[] 0)) ((w2.alloc (.map #[] 0)).alloc (.cells #[.int .u8 0, .int .u8 0, .int .u8 0, .int .u8 0, .int .u8 0, .int .u8 0, .int .u8 0, .int .u8 0, .int .u8 0] 5)) w2.heap.size s0.T s0.e s0.T 0
      (.slice (some ⟨w2.heap.size + 1, 0, none⟩) 9 9) (.int .i64 510) := by
    rw [Z2.out]
    have hA : Only [] (w2.alloc (.map #[] 0)) ((w2.alloc (.map #[] 0)).alloc (.cells #[.int .u8 0, .int .u8 0, .int .u8 0, .int .u8 0, .int .u8 0, .int .u8 0, .int .u8 0, .int .u8 0, .int .u8 0] 5)) := (Only.refl [] _).alloc _
    refine ⟨hA.mono (by simp), E.ini_ok.fits, ⟨w2.heap.size + 1, 9, rfl, by simp, ?_⟩, rfl, ⟨_, (MapT.start w2 s0.T).only hA (by simp)⟩, by simp⟩
    exact ⟨rfl, .inr ⟨w2.heap.size + 1, 9, #[.int .u8 0, .int .u8 0, .int .u8 0, .int .u8 0, .int .u8 0, .int .u8 0, .int .u8 0, .int .u8 0, .int .u8 0], rfl, Nat.zero_le _, Blk.new' _ _ (by simp), Nat.le_refl _, by decide, rfl, rfl⟩⟩
  obtain ⟨w3, hw3⟩ : ∃ x, x = w2.alloc (.map #[] 0) := ⟨_, rfl⟩
  have hO3 : Only [] w2 w3 := by rw [hw3]; exact (Only.refl [] w2).alloc _
  rw [← hw3] at hIv
  have C0 := Lib.hid hIv
  have C1 := Lib.hid (B1.out.only hO3 (by simp))
  have C2 := Lib.hid (B2.out.trans hO3 (by simp))
  have C3 := Lib.hid (B3.out.only hO3 (by simp))
  have hB0 : Hid (w.heap.size ≤ w2.heap.size) := B2.out.size
  have hB1 : Hid (bt ∉ [w2.heap.size]) := by have := B3.out.lt; show bt ∉ [w2.heap.size]; simp; omega
  have hB2 : Hid (∀ g ∈ GL, g ∉ [w2.heap.size]) := by
    intro g hg hm
    have hm : g = w2.heap.size := by simpa using hm
    have h1 := GG.out g hg
    have h2 := p3.size
    omega
  have HW3 := Lib.hid hw3
  clear hIv hw3 hO3 p3
  go_loopw [13, 14, 15] (fun lv sv iv wr => ∃ (k : Nat) (lo sz : Value), lo = lv ∧ sz = sv ∧ iv = .int .i64 k ∧ k ≤ f.length ∧ Iv w3 wr w2.heap.size s0.T (TE.runS sp 0 (f.take k) s0).e (TE.runS sp 0 (f.take k) s0).T k lo sz) (fun _ _ iv _ => f.length - (intOf iv).toNat)
  case atStart => rw [← HW3.out]; exact ⟨0, _, _, rfl, rfl, rfl, Nat.zero_le _, C0.out⟩
  case round =>
    clear C0
    obtain ⟨k, lo, sz, rfl, rfl, rfl, hk, hI⟩ := hrel
    by_cases hlt : k < f.length
    · rcases C1.out.here with hnil | ⟨g, off, cap3, hv, hGe, hg, hcp, hmm2, hcells⟩
      · exfalso; rw [hnil] at hlt; simp at hlt
      obtain ⟨rfl, rfl⟩ : a2 = some ⟨g, off, none⟩ ∧ cap2 = cap3 := by simpa using hv
      have hcc := fun (W : World) (ho : Only [w2.heap.size] w3 W) => (show W.cell? ⟨g, off + k * 2, none⟩ = some (.int .i64 f[k].1) ∧ W.cell? ⟨g, off + k * 2 + 1, none⟩ = some (.int .u8 f[k].2) ∧ g < W.heap.size from by
        have hb := ho.block g hg (hB2.out g (by rw [hGe]; simp))
        have e : ∀ q, W.cell? ⟨g, q, none⟩ = w3.cell? ⟨g, q, none⟩ := fun q => World.cell?_of_block hb
        obtain ⟨k0, k1⟩ := hcells k hlt
        exact ⟨by rw [e]; exact k0, by rw [e]; exact k1, Nat.lt_of_lt_of_le hg ho.size⟩)
      have hxo := HO.out f[k] (List.getElem_mem _)
      have hstep := TE.runS_take sp f s0 k hlt
      have hokk := TE.runS_ok sp 0 (l := f.take k) Z0.out (fun x hx => HO.out x (List.mem_of_mem_take hx))
      have hdk := TE.runS_d sp 0 (l := f.take k) Z0.out (fun x hx => HO.out x (List.mem_of_mem_take hx))
      rw [Z2.out, List.length_take] at hdk
      have hdk2 : (TE.runS sp 0 (f.take k) s0).e.d ≤ 3600 := by have : E.ini.d = 0 := rfl; omega
      obtain ⟨sk, hsk⟩ : ∃ x, x = TE.runS sp 0 (f.take k) s0 := ⟨_, rfl⟩
      rw [← hsk] at hI hstep hokk hdk2
      obtain ⟨⟨c, bit⟩, hx2⟩ : ∃ x : Bn, x = f[k] := ⟨_, rfl⟩
      rw [← hx2] at hcc hstep hxo
      simp only [] at hcc
      obtain ⟨k0, k1, hg5⟩ := hcc wr hI.only
      obtain ⟨v1, v2, v3⟩ := hxo
      simp only [] at v1 v2 v3
      have D1 := Lib.hid hI
      have D2 := Lib.hid hstep
      have D3 := Lib.hid hokk
      obtain ⟨ea, eb, ⟨gd, capd, rfl, ec, ed⟩, rfl, ⟨Dm, em⟩, ef⟩ := hI
      have HK := Lib.hid hcc
      clear hcells hv hstep hokk hdk hsk hx2 hcc hg
      obtain ⟨wo, rfl⟩ : ∃ wo : World, wo = wr := ⟨_, rfl⟩
      have E1 := Lib.hid ea
      have E2 := Lib.hid eb
      have E4 := Lib.hid ed
      have E5 := Lib.hid em
      clear ea eb ed em
      go_upto_if 67 with fail
      go_cut [13, 14] (fun lv sv wx => ∃ (e1 : E) (lo sz : Value), lo = lv ∧ sz = sv ∧ ren e1 = (sk.bin (c, bit)).e ∧ 6 ≤ e1.r ∧ e1.d ≤ sk.e.d + 1 ∧ Iv w3 wx w2.heap.size s0.T e1 (sk.bin (c, bit)).T (k + 1) lo sz)
      case first =>
        have hdd := low_len sk.e
        have hgl := E4.out.lt rfl
        have hcp2 : 9 + sk.e.d ≤ capd := by obtain ⟨_, _, q, _⟩ := E4.out.row; exact q
        have q4 : 9 + sk.e.d + 1 ≤ maxLen := by unfold maxLen; omega
        have q5 : (9 + sk.e.d + 1) * 1 ≤ 140737488355328 := by omega
        obtain ⟨y1, y2, y3⟩ := D3.out.e
        by_cases hc : c < 0
        · -- long
          have hbin : sk.bin (c, bit) = ⟨sk.T, sk.e.byp bit⟩ := by unfold TE.bin; rw [if_pos hc]
          have HBN := Lib.hid hbin
          clear hbin
          have hdo : 2 * sk.e.c + sk.e.r < 510 * 2 ^ (sk.e.d + 1) := by rw [Nat.pow_succ']; omega
          have hfit0 : E.fits ⟨2 * sk.e.c, sk.e.d + 1, sk.e.r⟩ := ⟨by simp only []; omega, by simp only []; omega, y3⟩
          have hfit1 : E.fits ⟨2 * sk.e.c + sk.e.r, sk.e.d + 1, sk.e.r⟩ := ⟨by simp only [Nat.pow_succ']; omega, by simp only []; omega, y3⟩
          have HFT0 := Lib.hid hfit0
          have HFT1 := Lib.hid hfit1
          have HDO := Lib.hid hdo
          clear hfit0 hfit1 hdo
          by_cases hb1 : bit = 1
          · subst hb1
            go_wp2_with (
              at_builtin
              refine wpList_append_lies _ rfl (.tmp 68) (.tmp 69) 70 rfl 0 5 i0 (.int .u8 0) 1 1 Try.underlying70 hi hz0 hz1 hz2 rfl (by decide) (.slice (some ⟨gd, 0, none⟩) (9 + sk.e.d) capd) (9 + sk.e.d) ((low sk.e).map byteV) rfl ?_ ⟨_, 0, none⟩ 1 1 [.int .u8 0] rfl rfl ?_ ?_ (by decide) ?_ ?_ (Nat.zero_le _) _ rfl ?_
              · exact E4.out.alloc _
              · exact World.news_of_block (cs := #[_]) (Blk.new' _ _ (by simp))
              · simp [Value.oneCell']
              · exact q4
              · exact q5
              intro ng ncap w5 hown hgrow hat hltn
              have O5 := Lib.hid (E1.out.trans (Only.appended ((Only.refl [] wo).alloc _) hgrow) (fun x hx => .inr (by simp [Value.ownBlock] at hx; omega)))
              obtain ⟨_, k1b, g5⟩ := HK.out w5 O5.out
              have hng : w3.heap.size ≤ ng := by
                rcases hat with q | q
                · simp [Value.ownBlock] at q; omega
                · have := E1.out.size; simp at q; omega
              rw [show low sk.e = low ⟨sk.e.c, sk.e.d, sk.e.r⟩ from rfl, low_snoc _ _ _ sk.e.r] at hown
              have S5 := Lib.hid hown
              have O6 := Lib.hid (Only.appended ((Only.refl [] wo).alloc _) hgrow)
              clear hown hgrow hat)
            have I5 := D1.out.row (e' := ⟨2 * sk.e.c, sk.e.d + 1, sk.e.r⟩) O6.out (fun x hx => by simp [Value.ownBlock] at hx; omega) HFT0.out hng S5.out
            refine (plus_low (r' := sk.e.r) (m := 9 + sk.e.d + 1) (by omega) S5.out HDO.out (by omega) (by omega)).mono ?_
            rintro en w6 ⟨g6, cap6, rfl, p1, p2, p3⟩
            have I6 := Lib.hid (I5.row (e' := ⟨2 * sk.e.c + sk.e.r, sk.e.d + 1, sk.e.r⟩) p3 (by simp) HFT1.out (Nat.le_trans O5.out.size p1) p2)
            clear p1 p2 p3 I5
            go_wp2_with fail
            go_meet
            refine ⟨⟨2 * sk.e.c + sk.e.r, sk.e.d + 1, sk.e.r⟩, _, _, rfl, rfl, ?_, by simp only []; omega, Nat.le_refl _, ?_⟩
            · rw [ren_big (e := ⟨2 * sk.e.c + sk.e.r, sk.e.d + 1, sk.e.r⟩) y2, HBN.out]; rfl
            · rw [HBN.out]
              exact I6.out.mono (Nat.le_succ k)
          · obtain rfl : bit = 0 := by omega
            go_wp2_with (
              at_builtin
              refine wpList_append_lies _ rfl (.tmp 68) (.tmp 69) 70 rfl 0 5 i0 (.int .u8 0) 1 1 Try.underlying70 hi hz0 hz1 hz2 rfl (by decide) (.slice (some ⟨gd, 0, none⟩) (9 + sk.e.d) capd) (9 + sk.e.d) ((low sk.e).map byteV) rfl ?_ ⟨_, 0, none⟩ 1 1 [.int .u8 0] rfl rfl ?_ ?_ (by decide) ?_ ?_ (Nat.zero_le _) _ rfl ?_
              · exact E4.out.alloc _
              · exact World.news_of_block (cs := #[_]) (Blk.new' _ _ (by simp))
              · simp [Value.oneCell']
              · exact q4
              · exact q5
              intro ng ncap w5 hown hgrow hat hltn
              have O5 := Lib.hid (E1.out.trans (Only.appended ((Only.refl [] wo).alloc _) hgrow) (fun x hx => .inr (by simp [Value.ownBlock] at hx; omega)))
              obtain ⟨_, k1b, g5⟩ := HK.out w5 O5.out
              have hng : w3.heap.size ≤ ng := by
                rcases hat with q | q
                · simp [Value.ownBlock] at q; omega
                · have := E1.out.size; simp at q; omega
              rw [show low sk.e = low ⟨sk.e.c, sk.e.d, sk.e.r⟩ from rfl, low_snoc _ _ _ sk.e.r] at hown
              have S5 := Lib.hid hown
              have O6 := Lib.hid (Only.appended ((Only.refl [] wo).alloc _) hgrow)
              clear hown hgrow hat)
            have I5 := Lib.hid (D1.out.row (e' := ⟨2 * sk.e.c, sk.e.d + 1, sk.e.r⟩) O6.out (fun x hx => by simp [Value.ownBlock] at hx; omega) HFT0.out hng S5.out)
            go_meet
            refine ⟨⟨2 * sk.e.c, sk.e.d + 1, sk.e.r⟩, _, _, rfl, rfl, ?_, by simp only []; omega, Nat.le_refl _, ?_⟩
            · rw [ren_big (e := ⟨2 * sk.e.c, sk.e.d + 1, sk.e.r⟩) y2, HBN.out]; rfl
            · rw [HBN.out]
              exact I5.out.mono (Nat.le_succ k)
          -- end
        · obtain ⟨i, rfl⟩ := Int.eq_ofNat_of_zero_le (show 0 ≤ c by omega)
          have hi2 : i < 286 := by omega
          have hbin : sk.bin ((i : Int), bit) = ⟨updT sk.T i (nxt (sk.T i) bit), sk.e.reg (sk.T i) bit⟩ := by unfold TE.bin; rw [if_neg (by simp)]; simp
          have hok2 := D3.out.T i
          have hlook := E5.out.look i hi2
          have hput := fun (W : World) (ho : Only [] wo W) => (E5.out.only ho (by simp)).put (by omega) i hi2 (nxt (sk.T i) bit)
          have hreg : sk.e.reg (sk.T i) bit = ren (if bit = (sk.T i).m then ⟨sk.e.c, sk.e.d, sk.e.r - share (sk.T i).p (sk.e.r / 64 % 4)⟩ else ⟨sk.e.c + (sk.e.r - share (sk.T i).p (sk.e.r / 64 % 4)), sk.e.d, share (sk.T i).p (sk.e.r / 64 % 4)⟩) := rfl
          obtain ⟨gs1, gs2⟩ := share_fits (sk.T i).p y2 y3
          have hT0i := Z1.out i
          obtain ⟨⟨p, m⟩, hst⟩ : ∃ x : St, x = sk.T i := ⟨_, rfl⟩
          rw [← hst] at hbin hok2 hlook hput hreg gs1 gs2
          obtain ⟨w1', w2'⟩ := hok2
          simp only [] at w1' w2'
          have HBN := Lib.hid hbin
          have HPUT := Lib.hid hput
          have HREG := Lib.hid hreg
          clear hbin hput hreg hst
          rcases hlook with ⟨hh, hrun⟩ | ⟨hh, hTi, hrun⟩
          · as_aux_lemma =>
              -- long
              unfold stV at hrun
              simp only [] at hrun gs1 gs2
              clear hT0i
              go_wp2_with fail
              refine (share_r p sk.e.r _ w1').mono ?_
              rintro en W ⟨rfl, hW⟩
              have hOW : Only [] wo W := by rw [hW]; first | exact (Only.refl [] wo).alloc _ | exact ((Only.refl [] wo).alloc _).alloc _
              have hBl : Blk W wo.heap.size #[.int .u8 p, .int .u8 m] 63 := by rw [hW]; first | exact Blk.new' _ _ rfl | exact (Blk.new' _ _ rfl).alloc _
              clear hW
              obtain ⟨_, k1W, hgW⟩ := HK.out W (E1.out.trans hOW (by simp))
              have c17a : W.cell? ⟨wo.heap.size, 0, none⟩ = some (.int .u8 p) := (hBl.cell 0).trans rfl
              have c17b : W.cell? ⟨wo.heap.size, 1, none⟩ = some (.int .u8 m) := (hBl.cell 1).trans rfl
              have hlt17 := hBl.lt
              have OW := Lib.hid hOW
              have BW := Lib.hid hBl
              have hrg := HREG.out
              try simp only [] at hrg
              obtain ⟨sh, hsh⟩ : ∃ x, x = share p (sk.e.r / 64 % 4) := ⟨_, rfl⟩
              rw [← hsh] at hrg gs1 gs2
              rw [← hsh]
              have HRG := Lib.hid hrg
              clear hOW hBl hrg hsh HREG hrun k0 k1 hh
              have hcast : ((sk.e.r - sh : Nat) : Int) = (sk.e.r : Int) - sh := by omega
              have HCA := Lib.hid hcast
              clear hcast
              by_cases hbm : bit = m
              · subst hbm
                have hrg := HRG.out
                rw [if_pos rfl] at hrg
                have HRG2 := Lib.hid hrg
                clear HRG hrg
                go_upto_region 22 with fail
                go_quiet (fail)
                go_wp2_with fail
                have HSX := Lib.hid (fun (w' : World) (ho : Only [w2.heap.size] W w') => (show w'.cell? ⟨wo.heap.size, 0, none⟩ = some (.int .u8 p) ∧ w'.cell? ⟨wo.heap.size, 1, none⟩ = some (.int .u8 bit) ∧ g < w'.heap.size ∧ w'.cell? ⟨g, off + k * 2 + 1, none⟩ = some (.int .u8 bit) from ⟨(BW.out.only ho (by have := E1.out.size; simp; omega)).cell 0 |>.trans rfl, (BW.out.only ho (by have := E1.out.size; simp; omega)).cell 1 |>.trans rfl, (HK.out w' ((E1.out.trans OW.out (by simp)).trans ho (fun x hx => .inl hx))).2.2, (HK.out w' ((E1.out.trans OW.out (by simp)).trans ho (fun x hx => .inl hx))).2.1⟩))
                go_region_held3 (fun w' => w'.cell? ⟨wo.heap.size, 0, none⟩ = some (.int .u8 p) ∧ w'.cell? ⟨wo.heap.size, 1, none⟩ = some (.int .u8 bit) ∧ g < w'.heap.size ∧ w'.cell? ⟨g, off + k * 2 + 1, none⟩ = some (.int .u8 bit)) (first | exact HSX.out _ ((Only.refl _ W).drewN nq).drew | exact HSX.out _ (OB9.out.mono (by simp)) | exact HSX.out _ ((OB9.out.mono (by simp)).trans V2.out (fun x hx => .inl hx))) (first | (go_at_call 44; refine (next_only p _ bit _ w1' w2' v3).mono ?_; rintro en w9 ⟨rfl, p1⟩; have O9 := Lib.hid (OW.out.trans (show Only [] W w9 from ⟨p1.os, p1.tape, p1.output, p1.size, p1.block⟩) (by simp)); have OB9 := Lib.hid (show Only [] W w9 from ⟨p1.os, p1.tape, p1.output, p1.size, p1.block⟩); obtain ⟨wu, hrun2, U1, U2⟩ := HPUT.out w9 O9.out; have V1 := Lib.hid U1; have V2 := Lib.hid U2; clear p1 U1 U2))
                all_goals
                  go_wp2_with fail
                  go_meet
                  refine ⟨⟨sk.e.c, sk.e.d, sk.e.r - sh⟩, _, _, rfl, rfl, ?_, by simp only []; omega, by simp only []; omega, ?_⟩
                  · rw [HBN.out, HRG2.out]
                  · rw [HBN.out]
                    exact ⟨(E1.out.trans O9.out (by simp)).trans V2.out (fun x hx => .inl hx), ⟨by simp only []; omega, by simp only []; omega, by simp only []; omega⟩,
                      ⟨gd, capd, rfl, ec, (E4.out.only O9.out (by simp)).only V2.out (fun x hx => by simp [Value.ownBlock] at hx; simp; omega)⟩, by rw [HCA.out], ⟨_, V1.out⟩, ef⟩
              · have hrg := HRG.out
                rw [if_neg hbm] at hrg
                have HRG2 := Lib.hid hrg
                clear HRG hrg
                have tne : ((bit : Int) != (m : Int)) = true := by simp; omega
                have hne : ¬ ((bit : Int) = (m : Int)) := by omega
                go_wp2_with fail
                go_upto_region 22 with fail
                go_quiet (fail)
                go_wp2_with fail
                rw [← HCA.out]
                refine (plus_low (r' := sh) (c := sk.e.c) (d := sk.e.d) (r := sk.e.r) (n := sk.e.r - sh) rfl ((E4.out.only OW.out (by simp)).drewN nq) (by omega) (by omega) (by omega)).mono ?_
                rintro en w6 ⟨g6, cap6, rfl, p1, p2, p3⟩
                have hg6 : w3.heap.size ≤ g6 := by have h1 := E1.out.size; have h2 := OW.out.size; exact Nat.le_trans h1 (Nat.le_trans h2 p1)
                have oW6 : Only [] W w6 := ⟨p3.os, p3.tape, p3.output, p3.size, p3.block⟩
                have O6 := Lib.hid (OW.out.trans oW6 (by simp))
                have S6 := Lib.hid p2
                have B6 := BW.out.only oW6 (by simp)
                have BW6 := Lib.hid B6
                obtain ⟨_, k16, hg66⟩ := HK.out w6 (E1.out.trans O6.out (by simp))
                have c6a : w6.cell? ⟨wo.heap.size, 0, none⟩ = some (.int .u8 p) := (B6.cell 0).trans rfl
                have c6b : w6.cell? ⟨wo.heap.size, 1, none⟩ = some (.int .u8 m) := (B6.cell 1).trans rfl
                have hlt16 := B6.lt
                clear p1 p2 p3 oW6 B6 c17a c17b hlt17 k1W hgW
                go_wp2_with fail
                have HSX := Lib.hid (fun (w' : World) (ho : Only [w2.heap.size] w6 w') => (show w'.cell? ⟨wo.heap.size, 0, none⟩ = some (.int .u8 p) ∧ w'.cell? ⟨wo.heap.size, 1, none⟩ = some (.int .u8 m) ∧ g < w'.heap.size ∧ w'.cell? ⟨g, off + k * 2 + 1, none⟩ = some (.int .u8 bit) from ⟨(BW6.out.only ho (by have := E1.out.size; simp; omega)).cell 0 |>.trans rfl, (BW6.out.only ho (by have := E1.out.size; simp; omega)).cell 1 |>.trans rfl, (HK.out w' ((E1.out.trans O6.out (by simp)).trans ho (fun x hx => .inl hx))).2.2, (HK.out w' ((E1.out.trans O6.out (by simp)).trans ho (fun x hx => .inl hx))).2.1⟩))
                go_region_held3 (fun w' => w'.cell? ⟨wo.heap.size, 0, none⟩ = some (.int .u8 p) ∧ w'.cell? ⟨wo.heap.size, 1, none⟩ = some (.int .u8 m) ∧ g < w'.heap.size ∧ w'.cell? ⟨g, off + k * 2 + 1, none⟩ = some (.int .u8 bit)) (first | exact HSX.out _ (Only.refl _ w6).drew | exact HSX.out _ (OB9.out.mono (by simp)) | exact HSX.out _ ((OB9.out.mono (by simp)).trans V2.out (fun x hx => .inl hx))) (first | (go_at_call 44; refine (next_only p _ bit _ w1' w2' v3).mono ?_; rintro en w9 ⟨rfl, p1⟩; have O9 := Lib.hid (O6.out.trans (show Only [] w6 w9 from ⟨p1.os, p1.tape, p1.output, p1.size, p1.block⟩) (by simp)); have O69 := Lib.hid (show Only [] w6 w9 from ⟨p1.os, p1.tape, p1.output, p1.size, p1.block⟩); have OB9 := Lib.hid (show Only [] w6 w9 from ⟨p1.os, p1.tape, p1.output, p1.size, p1.block⟩); obtain ⟨wu, hrun2, U1, U2⟩ := HPUT.out w9 O9.out; have V1 := Lib.hid U1; have V2 := Lib.hid U2; clear p1 U1 U2))
                all_goals
                  go_wp2_with fail
                  go_meet
                  refine ⟨⟨sk.e.c + (sk.e.r - sh), sk.e.d, sh⟩, _, _, rfl, rfl, ?_, by simp only []; omega, by simp only []; omega, ?_⟩
                  · rw [HBN.out, HRG2.out]
                  · rw [HBN.out]
                    exact ⟨(E1.out.trans O9.out (by simp)).trans V2.out (fun x hx => .inl hx), ⟨by simp only []; omega, by simp only []; omega, by simp only []; omega⟩,
                      ⟨g6, cap6, rfl, hg6, (S6.out.only O69.out (by simp)).only V2.out (fun x hx => by simp [Value.ownBlock] at hx; simp; omega)⟩, rfl, ⟨_, V1.out⟩, ef⟩
              -- end
          · as_aux_lemma =>
              -- long
              simp only [] at gs1 gs2
              rw [hT0i] at hTi
              go_wp2_with fail
              refine (init_any i cl' qp' _ hi2 (by omega) (by omega)).mono ?_
              rw [← hTi]
              clear hTi hT0i
              unfold stV
              rintro en w5 ⟨rfl, c5, rfl⟩
              go_wp2_with fail
              refine (share_r p sk.e.r _ w1').mono ?_
              rintro en W ⟨rfl, hW⟩
              have hOW : Only [] wo W := by rw [hW]; first | exact (Only.refl [] wo).alloc _ | exact ((Only.refl [] wo).alloc _).alloc _
              have hBl : Blk W wo.heap.size #[.int .u8 p, .int .u8 m] 63 := by rw [hW]; first | exact Blk.new' _ _ rfl | exact (Blk.new' _ _ rfl).alloc _
              clear hW
              obtain ⟨_, k1W, hgW⟩ := HK.out W (E1.out.trans hOW (by simp))
              have c17a : W.cell? ⟨wo.heap.size, 0, none⟩ = some (.int .u8 p) := (hBl.cell 0).trans rfl
              have c17b : W.cell? ⟨wo.heap.size, 1, none⟩ = some (.int .u8 m) := (hBl.cell 1).trans rfl
              have hlt17 := hBl.lt
              have OW := Lib.hid hOW
              have BW := Lib.hid hBl
              have hrg := HREG.out
              try simp only [] at hrg
              obtain ⟨sh, hsh⟩ : ∃ x, x = share p (sk.e.r / 64 % 4) := ⟨_, rfl⟩
              rw [← hsh] at hrg gs1 gs2
              rw [← hsh]
              have HRG := Lib.hid hrg
              clear hOW hBl hrg hsh HREG hrun k0 k1 hh
              have hcast : ((sk.e.r - sh : Nat) : Int) = (sk.e.r : Int) - sh := by omega
              have HCA := Lib.hid hcast
              clear hcast
              by_cases hbm : bit = m
              · subst hbm
                have hrg := HRG.out
                rw [if_pos rfl] at hrg
                have HRG2 := Lib.hid hrg
                clear HRG hrg
                go_upto_region 22 with fail
                go_quiet (fail)
                go_wp2_with fail
                have HSX := Lib.hid (fun (w' : World) (ho : Only [w2.heap.size] W w') => (show w'.cell? ⟨wo.heap.size, 0, none⟩ = some (.int .u8 p) ∧ w'.cell? ⟨wo.heap.size, 1, none⟩ = some (.int .u8 bit) ∧ g < w'.heap.size ∧ w'.cell? ⟨g, off + k * 2 + 1, none⟩ = some (.int .u8 bit) from ⟨(BW.out.only ho (by have := E1.out.size; simp; omega)).cell 0 |>.trans rfl, (BW.out.only ho (by have := E1.out.size; simp; omega)).cell 1 |>.trans rfl, (HK.out w' ((E1.out.trans OW.out (by simp)).trans ho (fun x hx => .inl hx))).2.2, (HK.out w' ((E1.out.trans OW.out (by simp)).trans ho (fun x hx => .inl hx))).2.1⟩))
                go_region_held3 (fun w' => w'.cell? ⟨wo.heap.size, 0, none⟩ = some (.int .u8 p) ∧ w'.cell? ⟨wo.heap.size, 1, none⟩ = some (.int .u8 bit) ∧ g < w'.heap.size ∧ w'.cell? ⟨g, off + k * 2 + 1, none⟩ = some (.int .u8 bit)) (first | exact HSX.out _ ((Only.refl _ W).drewN nq).drew | exact HSX.out _ (OB9.out.mono (by simp)) | exact HSX.out _ ((OB9.out.mono (by simp)).trans V2.out (fun x hx => .inl hx))) (first | (go_at_call 44; refine (next_only p _ bit _ w1' w2' v3).mono ?_; rintro en w9 ⟨rfl, p1⟩; have O9 := Lib.hid (OW.out.trans (show Only [] W w9 from ⟨p1.os, p1.tape, p1.output, p1.size, p1.block⟩) (by simp)); have OB9 := Lib.hid (show Only [] W w9 from ⟨p1.os, p1.tape, p1.output, p1.size, p1.block⟩); obtain ⟨wu, hrun2, U1, U2⟩ := HPUT.out w9 O9.out; have V1 := Lib.hid U1; have V2 := Lib.hid U2; clear p1 U1 U2))
                all_goals
                  go_wp2_with fail
                  go_meet
                  refine ⟨⟨sk.e.c, sk.e.d, sk.e.r - sh⟩, _, _, rfl, rfl, ?_, by simp only []; omega, by simp only []; omega, ?_⟩
                  · rw [HBN.out, HRG2.out]
                  · rw [HBN.out]
                    exact ⟨(E1.out.trans O9.out (by simp)).trans V2.out (fun x hx => .inl hx), ⟨by simp only []; omega, by simp only []; omega, by simp only []; omega⟩,
                      ⟨gd, capd, rfl, ec, (E4.out.only O9.out (by simp)).only V2.out (fun x hx => by simp [Value.ownBlock] at hx; simp; omega)⟩, by rw [HCA.out], ⟨_, V1.out⟩, ef⟩
              · have hrg := HRG.out
                rw [if_neg hbm] at hrg
                have HRG2 := Lib.hid hrg
                clear HRG hrg
                have tne : ((bit : Int) != (m : Int)) = true := by simp; omega
                have hne : ¬ ((bit : Int) = (m : Int)) := by omega
                go_wp2_with fail
                go_upto_region 22 with fail
                go_quiet (fail)
                go_wp2_with fail
                rw [← HCA.out]
                refine (plus_low (r' := sh) (c := sk.e.c) (d := sk.e.d) (r := sk.e.r) (n := sk.e.r - sh) rfl ((E4.out.only OW.out (by simp)).drewN nq) (by omega) (by omega) (by omega)).mono ?_
                rintro en w6 ⟨g6, cap6, rfl, p1, p2, p3⟩
                have hg6 : w3.heap.size ≤ g6 := by have h1 := E1.out.size; have h2 := OW.out.size; exact Nat.le_trans h1 (Nat.le_trans h2 p1)
                have oW6 : Only [] W w6 := ⟨p3.os, p3.tape, p3.output, p3.size, p3.block⟩
                have O6 := Lib.hid (OW.out.trans oW6 (by simp))
                have S6 := Lib.hid p2
                have B6 := BW.out.only oW6 (by simp)
                have BW6 := Lib.hid B6
                obtain ⟨_, k16, hg66⟩ := HK.out w6 (E1.out.trans O6.out (by simp))
                have c6a : w6.cell? ⟨wo.heap.size, 0, none⟩ = some (.int .u8 p) := (B6.cell 0).trans rfl
                have c6b : w6.cell? ⟨wo.heap.size, 1, none⟩ = some (.int .u8 m) := (B6.cell 1).trans rfl
                have hlt16 := B6.lt
                clear p1 p2 p3 oW6 B6 c17a c17b hlt17 k1W hgW
                go_wp2_with fail
                have HSX := Lib.hid (fun (w' : World) (ho : Only [w2.heap.size] w6 w') => (show w'.cell? ⟨wo.heap.size, 0, none⟩ = some (.int .u8 p) ∧ w'.cell? ⟨wo.heap.size, 1, none⟩ = some (.int .u8 m) ∧ g < w'.heap.size ∧ w'.cell? ⟨g, off + k * 2 + 1, none⟩ = some (.int .u8 bit) from ⟨(BW6.out.only ho (by have := E1.out.size; simp; omega)).cell 0 |>.trans rfl, (BW6.out.only ho (by have := E1.out.size; simp; omega)).cell 1 |>.trans rfl, (HK.out w' ((E1.out.trans O6.out (by simp)).trans ho (fun x hx => .inl hx))).2.2, (HK.out w' ((E1.out.trans O6.out (by simp)).trans ho (fun x hx => .inl hx))).2.1⟩))
                go_region_held3 (fun w' => w'.cell? ⟨wo.heap.size, 0, none⟩ = some (.int .u8 p) ∧ w'.cell? ⟨wo.heap.size, 1, none⟩ = some (.int .u8 m) ∧ g < w'.heap.size ∧ w'.cell? ⟨g, off + k * 2 + 1, none⟩ = some (.int .u8 bit)) (first | exact HSX.out _ (Only.refl _ w6).drew | exact HSX.out _ (OB9.out.mono (by simp)) | exact HSX.out _ ((OB9.out.mono (by simp)).trans V2.out (fun x hx => .inl hx))) (first | (go_at_call 44; refine (next_only p _ bit _ w1' w2' v3).mono ?_; rintro en w9 ⟨rfl, p1⟩; have O9 := Lib.hid (O6.out.trans (show Only [] w6 w9 from ⟨p1.os, p1.tape, p1.output, p1.size, p1.block⟩) (by simp)); have O69 := Lib.hid (show Only [] w6 w9 from ⟨p1.os, p1.tape, p1.output, p1.size, p1.block⟩); have OB9 := Lib.hid (show Only [] w6 w9 from ⟨p1.os, p1.tape, p1.output, p1.size, p1.block⟩); obtain ⟨wu, hrun2, U1, U2⟩ := HPUT.out w9 O9.out; have V1 := Lib.hid U1; have V2 := Lib.hid U2; clear p1 U1 U2))
                all_goals
                  go_wp2_with fail
                  go_meet
                  refine ⟨⟨sk.e.c + (sk.e.r - sh), sk.e.d, sh⟩, _, _, rfl, rfl, ?_, by simp only []; omega, by simp only []; omega, ?_⟩
                  · rw [HBN.out, HRG2.out]
                  · rw [HBN.out]
                    exact ⟨(E1.out.trans O9.out (by simp)).trans V2.out (fun x hx => .inl hx), ⟨by simp only []; omega, by simp only []; omega, by simp only []; omega⟩,
                      ⟨g6, cap6, rfl, hg6, (S6.out.only O69.out (by simp)).only V2.out (fun x hx => by simp [Value.ownBlock] at hx; simp; omega)⟩, rfl, ⟨_, V1.out⟩, ef⟩
              -- end
      case rest =>
        clear E1 E2 E4 E5 k0 k1 hg5 ec
        obtain ⟨e1, lo, sz, rfl, rfl, hren, hr6, hd1, hI⟩ := hcut
        obtain ⟨sb, hsb⟩ : ∃ x, x = sk.bin (c, bit) := ⟨_, rfl⟩
        rw [← hsb] at hren hI
        have F1 := Lib.hid hren
        have F2 := Lib.hid hI
        have hf1 := hI.fits.hi
        have hsbo : sb.e.ok := by rw [hsb]; exact (TE.bin_ok D3.out (x := (c, bit)) ⟨v1, v2, v3⟩).e
        obtain ⟨x1, x2, x3⟩ := hsbo
        have hsbd : sb.e.d ≤ 3700 := by rw [hsb]; have := TE.bin_d D3.out (c, bit); omega
        obtain ⟨_, _, ⟨g1, cap1, rfl, _, _⟩, rfl, _, _⟩ := hI
        have HSB := Lib.hid hsb
        clear hren hsb
        go_wp2_with fail
        go_loopg [13, 14] 9 (fun f lv sv wr => ∃ (e' : E) (lo sz : Value), lo = lv ∧ sz = sv ∧ renN f e' = ren e1 ∧ 256 ≤ e'.r * 2 ^ f ∧ e'.d + f ≤ e1.d + 9 ∧ Iv w3 wr w2.heap.size s0.T e' sb.T (k + 1) lo sz)
        case atStart => exact ⟨e1, _, _, rfl, rfl, rfl, by rw [pow9]; omega, Nat.le_refl _, F2.out⟩
        case round =>
          obtain ⟨e', lo, sz, rfl, rfl, hren', h256, hdd, hI⟩ := hrel
          have D5 := Lib.hid hI
          obtain ⟨ea, eb, ⟨gd, capd, rfl, ec, ed⟩, rfl, _, ef⟩ := hI
          by_cases hq : e'.r < 256
          · as_aux_lemma =>
              obtain ⟨gk, rfl⟩ : ∃ q, gk = q + 1 := ⟨gk - 1, by
                by_cases hz : gk = 0
                · subst hz; simp at h256; omega
                · omega⟩
              have E1 := Lib.hid ea
              have E4 := Lib.hid ed
              have hgl := ed.lt rfl
              have hcp2 : 9 + e'.d ≤ capd := by obtain ⟨_, _, q, _⟩ := ed.row; exact q
              have q4 : 9 + e'.d + 1 ≤ maxLen := by unfold maxLen; omega
              have q5 : (9 + e'.d + 1) * 1 ≤ 140737488355328 := by omega
              clear ea ed
              go_wp2_with (
                at_builtin
                refine wpList_append_lies _ rfl (.tmp 139) (.tmp 140) 70 rfl 0 5 i0 (.int .u8 0) 1 1 Try.underlying70 hi hz0 hz1 hz2 rfl (by decide) (.slice (some ⟨gd, 0, none⟩) (9 + e'.d) capd) (9 + e'.d) ((low e').map byteV) rfl ?_ ⟨_, 0, none⟩ 1 1 [.int .u8 0] rfl rfl ?_ ?_ (by decide) ?_ ?_ (Nat.zero_le _) _ rfl ?_
                · exact E4.out.alloc _
                · exact World.news_of_block (cs := #[_]) (Blk.new' _ _ (by simp))
                · simp [Value.oneCell']
                · exact q4
                · exact q5
                intro ng ncap w5 hown hgrow hat hltn
                have hng : w3.heap.size ≤ ng := by
                  rcases hat with q | q
                  · simp [Value.ownBlock] at q; omega
                  · have := E1.out.size; simp at q; omega
                rw [show low e' = low ⟨e'.c, e'.d, e'.r⟩ from rfl, low_snoc _ _ _ (2 * e'.r)] at hown
                have S5 := Lib.hid hown
                have O6 := Lib.hid (Only.appended ((Only.refl [] wr).alloc _) hgrow)
                clear hown hgrow hat)
              have I5 : Iv w3 w5 w2.heap.size s0.T ⟨2 * e'.c, e'.d + 1, 2 * e'.r⟩ sb.T (k + 1) (.slice (some ⟨ng, 0, none⟩) (9 + e'.d + 1) ncap) (.int .i64 ((2 * e'.r : Nat) : Int)) :=
                D5.out.row O6.out (fun x hx => by simp [Value.ownBlock] at hx; omega) (fits_dbl eb hq) hng S5.out
              rw [show ((2 * e'.r : Nat) : Int) = 2 * (e'.r : Int) by omega] at I5
              go_roundg gk
              case measure => omega
              case rel => exact ⟨⟨2 * e'.c, e'.d + 1, 2 * e'.r⟩, _, _, rfl, rfl, ren_step hren' hq, by simp only [Nat.pow_succ'] at h256 ⊢; rw [Nat.mul_comm 2 e'.r, Nat.mul_assoc]; exact h256, by simp only []; omega, I5⟩
          · have he : e' = sb.e := (ren_stay hren' hq).trans F1.out
            subst he
            by_cases hs0 : 0 < sp
            · by_cases hm0 : k % sp = 0
              · have t1 : ((k : Int) % (sp : Int) == 0) = true := by rw [beq_iff_eq]; exact_mod_cast hm0
                have t2 : sk.stepS sp k (c, bit) = sb.stop := by unfold TE.stepS; rw [if_pos ⟨hs0, hm0⟩, HSB.out]
                have J3 := Lib.hid (D2.out.trans t2)
                clear t2
                have hcst : ((sb.e.r - 2 : Nat) : Int) = (sb.e.r : Int) - 2 := by omega
                have J1 : Iv w3 wr w2.heap.size s0.T ⟨sb.e.c, sb.e.d, sb.e.r - 2⟩ sb.T (k + 1) (.slice (some ⟨gd, 0, none⟩) (9 + sb.e.d) capd) (.int .i64 ((sb.e.r - 2 : Nat) : Int)) :=
                  D5.out.row (Only.refl [] wr) (by simp) ⟨by simp only []; omega, by simp only []; omega, by simp only []; omega⟩ ec ed
                rw [hcst] at J1
                have J2 := Lib.hid J1
                clear J1 hcst ea ed eb D5 hren' h256 hdd ec
                go_wp2_with fail
                go_loopg [13, 14] 9 (fun f lv sv wr => ∃ (e' : E) (lo sz : Value), lo = lv ∧ sz = sv ∧ renN f e' = ren ⟨sb.e.c, sb.e.d, sb.e.r - 2⟩ ∧ 256 ≤ e'.r * 2 ^ f ∧ e'.d + f ≤ sb.e.d + 9 ∧ Iv w3 wr w2.heap.size s0.T e' sb.T (k + 1) lo sz)
                case atStart => exact ⟨⟨sb.e.c, sb.e.d, sb.e.r - 2⟩, _, _, rfl, rfl, rfl, by rw [pow9]; simp only []; omega, Nat.le_refl _, J2.out⟩
                case round =>
                  obtain ⟨e', lo, sz, rfl, rfl, hren', h256, hdd, hI⟩ := hrel
                  have D5 := Lib.hid hI
                  obtain ⟨ea, eb, ⟨gd, capd, rfl, ec, ed⟩, rfl, _, ef⟩ := hI
                  by_cases hq : e'.r < 256
                  · as_aux_lemma =>
                      obtain ⟨gk, rfl⟩ : ∃ q, gk = q + 1 := ⟨gk - 1, by
                        by_cases hz : gk = 0
                        · subst hz; simp at h256; omega
                        · omega⟩
                      have E1 := Lib.hid ea
                      have E4 := Lib.hid ed
                      have hgl := ed.lt rfl
                      have hcp2 : 9 + e'.d ≤ capd := by obtain ⟨_, _, q, _⟩ := ed.row; exact q
                      have q4 : 9 + e'.d + 1 ≤ maxLen := by unfold maxLen; omega
                      have q5 : (9 + e'.d + 1) * 1 ≤ 140737488355328 := by omega
                      clear ea ed
                      go_wp2_with (
                        at_builtin
                        refine wpList_append_lies _ rfl (.tmp 156) (.tmp 157) 70 rfl 0 5 i0 (.int .u8 0) 1 1 Try.underlying70 hi hz0 hz1 hz2 rfl (by decide) (.slice (some ⟨gd, 0, none⟩) (9 + e'.d) capd) (9 + e'.d) ((low e').map byteV) rfl ?_ ⟨_, 0, none⟩ 1 1 [.int .u8 0] rfl rfl ?_ ?_ (by decide) ?_ ?_ (Nat.zero_le _) _ rfl ?_
                        · exact E4.out.alloc _
                        · exact World.news_of_block (cs := #[_]) (Blk.new' _ _ (by simp))
                        · simp [Value.oneCell']
                        · exact q4
                        · exact q5
                        intro ng ncap w5 hown hgrow hat hltn
                        have hng : w3.heap.size ≤ ng := by
                          rcases hat with q | q
                          · simp [Value.ownBlock] at q; omega
                          · have := E1.out.size; simp at q; omega
                        rw [show low e' = low ⟨e'.c, e'.d, e'.r⟩ from rfl, low_snoc _ _ _ (2 * e'.r)] at hown
                        have S5 := Lib.hid hown
                        have O6 := Lib.hid (Only.appended ((Only.refl [] wr).alloc _) hgrow)
                        clear hown hgrow hat)
                      have I5 : Iv w3 w5 w2.heap.size s0.T ⟨2 * e'.c, e'.d + 1, 2 * e'.r⟩ sb.T (k + 1) (.slice (some ⟨ng, 0, none⟩) (9 + e'.d + 1) ncap) (.int .i64 ((2 * e'.r : Nat) : Int)) :=
                        D5.out.row O6.out (fun x hx => by simp [Value.ownBlock] at hx; omega) (fits_dbl eb hq) hng S5.out
                      rw [show ((2 * e'.r : Nat) : Int) = 2 * (e'.r : Int) by omega] at I5
                      go_roundg gk
                      case measure => omega
                      case rel => exact ⟨⟨2 * e'.c, e'.d + 1, 2 * e'.r⟩, _, _, rfl, rfl, ren_step hren' hq, by simp only [Nat.pow_succ'] at h256 ⊢; rw [Nat.mul_comm 2 e'.r, Nat.mul_assoc]; exact h256, by simp only []; omega, I5⟩
                  · have he : e' = sb.e.stop0 := ren_stay hren' hq
                    subst he
                    go_wp2_with fail
                    go_roundw
                    case rel => exact ⟨k + 1, _, _, rfl, rfl, by go_num, by omega, by rw [J3.out]; exact D5.out⟩
                    case measure => simp [intOf]; omega
              · have t1 : ((k : Int) % (sp : Int) == 0) = false := by simp; omega
                have t2 : sk.stepS sp k (c, bit) = sb := by unfold TE.stepS; rw [if_neg (fun h => hm0 h.2), HSB.out]
                have J3 := Lib.hid (D2.out.trans t2)
                clear t2
                go_wp2_with fail
                go_roundw
                case rel => exact ⟨k + 1, _, _, rfl, rfl, by go_num, by omega, by rw [J3.out]; exact D5.out⟩
                case measure => simp [intOf]; omega
            · have t2 : sk.stepS sp k (c, bit) = sb := by unfold TE.stepS; rw [if_neg (fun h => hs0 h.1), HSB.out]
              have J3 := Lib.hid (D2.out.trans t2)
              clear t2
              go_wp2_with fail
              go_roundw
              case rel => exact ⟨k + 1, _, _, rfl, rfl, by go_num, by omega, by rw [J3.out]; exact D5.out⟩
              case measure => simp [intOf]; omega
    · obtain rfl : k = f.length := by omega
      rw [List.take_length, ← HSS.out] at hI
      obtain ⟨ea, eb, ⟨gd, capd, hlo, ec, ed⟩, rfl, ⟨Dm, em⟩, ef⟩ := hI
      obtain ⟨m, hm⟩ : ∃ m, 9 + S.e.d = m + 1 := ⟨8 + S.e.d, by omega⟩
      rw [hm] at hlo ed
      subst hlo
      have E1 := Lib.hid ea
      have E4 := Lib.hid ed
      have E5 := Lib.hid em
      obtain ⟨y1, y2, y3⟩ := K5.out.e
      have hcast : ((S.e.r - 2 : Nat) : Int) = (S.e.r : Int) - 2 := by omega
      have HCA := Lib.hid hcast
      clear ea eb ed em hcast hlt hk
      obtain ⟨wo, rfl⟩ : ∃ wo : World, wo = wr := ⟨_, rfl⟩
      go_wp2_with fail
      rw [← HCA.out]
      refine (plus_low (r' := S.e.r) (c := S.e.c) (d := S.e.d) (r := S.e.r) (n := S.e.r - 2) hm.symm E4.out (by omega) (by omega) (by omega)).mono ?_
      rintro en w6 ⟨g6, cap6, rfl, p1, p2, p3⟩
      have hg6 : w3.heap.size ≤ g6 := Nat.le_trans E1.out.size p1
      have hgB : g6 ≠ w2.heap.size := by omega
      have hset := p2.set m (byteV 1)
      rw [← List.map_set, show m = 8 + S.e.d by omega, low_odd] at hset
      rw [show 8 + S.e.d = m by omega] at hset
      have c0 : ∃ v, w6.cell? ⟨g6, m, none⟩ = some v := by
        rw [p2.cells m (by omega), List.getElem?_map, List.getElem?_eq_getElem (by rw [low_len]; simp only []; omega)]
        exact ⟨_, rfl⟩
      obtain ⟨cv, c0⟩ := c0
      have f0 := p2.free m
      have hlt6 := p2.lt rfl
      have hcp6 : m + 1 ≤ cap6 := by obtain ⟨_, _, q, _⟩ := p2.row; exact q
      have hO7 : Only [g6] w6 (w6.setCell ⟨g6, m, none⟩ (.int .u8 1)) := (Only.refl [g6] w6).setCell _ (.inl (by simp)) _
      have hM7 := (E5.out.only p3 (by simp)).only hO7 (by simpa using hgB.symm)
      have S7 : Hid (Sl (w6.setCell ⟨g6, m, none⟩ (.int .u8 1)) 5 1 (.slice (some ⟨g6, 0, none⟩) (m + 1) cap6) (m + 1) (S.e.out.map byteV)) := hset
      have M7 := Lib.hid hM7
      have O7 := Lib.hid ((E1.out.trans p3 (by simp)).trans hO7 (fun x hx => .inr (by simp at hx; omega)))
      clear hset hM7 hO7 p1 p2 p3
      go_upto_region 38 with fail
      obtain ⟨w7, hw7⟩ : ∃ x, x = w6.setCell ⟨g6, m, none⟩ (.int .u8 1) := ⟨_, rfl⟩
      rw [← hw7] at S7 M7 O7
      rw [← hw7]
      clear hw7 c0 f0
      go_wp2_with (first | (at_range; refine wpList_range_own _ rfl _ 69 rfl 3 63 intKey Try.underlying69 stElem w2.heap.size f.length Dm rfl M7.out.own ?_; intro w8 hrg0 hg0 hs0) | fail)
      have hO8 : Only [] w7 w8 := (Only.refl [] _).of_grown hg0 (fun k hk => by cases hk)
      have RG := Lib.hid hrg0
      have S8 := Lib.hid (S7.out.only hO8 (by simp))
      have O8 := Lib.hid (O7.out.trans hO8 (by simp))
      have hR : w3.heap.size ≤ w7.heap.size := O7.out.size
      have hgR : g6 ≠ w7.heap.size := Nat.ne_of_lt (S7.out.lt (k := g6) rfl)
      have hbR : bt ≠ w7.heap.size := by have := C3.out.lt; omega
      have MK := Lib.hid M7.out.keys
      have MA := Lib.hid M7.out.at_
      clear hrg0 hg0 hs0 hO8 S7 M7 O7 hlt6 hcp6
      try go_frame
      go_loopw [21] (fun _ wr => ∃ (left : Lit → Bool) (cnt : Nat), wr.ranges Try.prog 3 stElem w2.heap.size w7.heap.size f.length Dm left cnt ∧ (∀ kl, left kl = true → Maps.has Dm kl = true) ∧ Only [w7.heap.size] w8 wr) (fun _ wr => wr.rangeLeft w2.heap.size w7.heap.size)
      case atStart => exact ⟨_, _, RG.out, fun _ h => h, Only.refl _ _⟩
      case round =>
        obtain ⟨left, cnt, hrg, hleft, ho⟩ := hrel
        obtain ⟨wp, rfl⟩ : ∃ wp : World, wp = wr := ⟨_, rfl⟩
        have HRG := Lib.hid hrg
        have HLE := Lib.hid hleft
        have HON := Lib.hid ho
        clear hrg hleft ho
        go_wp2_with (
          at_next
          refine wpList_next_mapT rfl _ rfl w2.heap.size w7.heap.size f.length Dm S.T left cnt MK.out MA.out rfl HRG.out HLE.out ?_ ?_)
        · intro _
          have hsl2 := K3.out
          have e9a : (t9.toList == [49, 49, 49, 49, 49, 49, 49, 49, 48]) = false := by
            rw [beq_eq_false_iff_ne]
            intro h
            rw [ByteArray.toList_eq] at h
            exact K1.out (ByteArray.ext (Array.ext' h))
          have e9b : (t9.toList == [49, 49, 49, 49, 49, 49, 49, 49, 49]) = false := by
            rw [beq_eq_false_iff_ne]
            intro h
            rw [ByteArray.toList_eq] at h
            exact K2.out (ByteArray.ext (Array.ext' h))
          have hSw := S8.out.only HON.out (by simpa [Value.ownBlock] using hgR)
          have SW := Lib.hid hSw
          have OW := Lib.hid ((O8.out.trans (HON.out) (fun x hx => .inr (by simp at hx; omega))))
          clear hSw
          go_wp2_with fail
          refine (text_low (by rw [out_length]; omega) SW.out (bitsOf_le _ _) (by rw [out_length]; omega)).mono ?_
          rw [← K4.out]
          rintro en w9 ⟨rfl, p1⟩
          have O9 := Lib.hid (OW.out.trans p1 (by simp))
          clear p1
          go_wp2_with fail
          refine (alive_any _).mono ?_
          rintro en w10 ⟨rfl, p1⟩
          have O10 := Lib.hid (O9.out.trans p1 (by simp))
          clear p1
          go_wp2_with fail
          go_returns
          exact ⟨rfl, C2.out.past O10.out (fun x hx => by have := hB0.out; have := C2.out.size; simp at hx; omega)⟩
        · intro i left' w9 cnt' hi9 hle hrg2 hltc ho9 hen
          have L1 := Lib.hid hle
          have L2 := Lib.hid hrg2
          have L3 := Lib.hid hltc
          have L4 := Lib.hid ho9
          have hT9 := ((C3.out.only O8.out hB1.out).only HON.out (by simpa using hbR)).only ho9 (by simpa using hbR)
          have T9 := Lib.hid hT9
          clear hle hrg2 hltc ho9 hT9
          go_wp2_with fail
          refine (state_any (T9.out.only ((Only.refl [] w9).alloc _) (by simp)) i hi9).mono ?_
          rintro en w10 ⟨rfl, c1, rfl⟩
          go_wp2_with fail
          go_roundw
          case rel => exact ⟨left', cnt', ((L2.out.alloc _).alloc _).alloc _, L1.out, (((HON.out.trans L4.out (fun x hx => .inl hx)).alloc _).alloc _).alloc _⟩
          case measure => rw [(((L2.out.alloc _).alloc _).alloc _).left_eq, HRG.out.left_eq]; exact L3.out

end Go.Proofs.Ytbpdhfenomebpaa
