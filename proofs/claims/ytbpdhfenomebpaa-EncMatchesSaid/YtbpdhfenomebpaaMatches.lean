/-
  EncMatches: whatever is called, the program's encoders write and return what the reference's do. No condition.
-/
import Derived.Test.YtbpdhfenomebpaaBoth
import Derived.Test.YtbpdhfenomebpaaOpenActs
import Derived.Deep.CutBlock
namespace Go.Proofs.Ytbpdhfenomebpaa
open Go.RowKit Sp

/-- The tables of a class and a quantizer, or none. -/
def good (cl qp : Int) : Prop := 0 ≤ cl ∧ cl ≤ 3 ∧ 0 ≤ qp ∧ qp ≤ 51

open Classical in
noncomputable def codeT (cl qp : Int) : Int := if good cl qp then 0 else 3

/-- The program's table. -/
def N1 (w0 w : World) (cl qp : Int) (t : Value) : Prop :=
  (¬ good cl qp ∧ t = .pointer none) ∨ (good cl qp ∧ ∃ bt, t = pt bt ∧ w0.heap.size ≤ bt ∧ Tab w bt (fun i => ini i cl.toNat qp.toNat))

/-- Both tables. -/
def N2 (w0 w : World) (t u : Value) (o : Ob) : Prop :=
  (t = .pointer none ∧ u = .pointer none ∧ o = .no none) ∨ ∃ bt ru gt T, t = pt bt ∧ u = pt ru ∧ o = .no (some T) ∧ Tab w bt T ∧ RTab w ru gt T ∧ ru ≠ gt ∧ bt ∉ [ru, gt] ∧ w0.heap.size ≤ bt ∧ w0.heap.size ≤ ru ∧ w0.heap.size ≤ gt

theorem new_both (cl qp : Int) (w : World) :
    Calls Try.prog 20 #[.int .i64 cl, .int .i64 qp] w fun e w' => ∃ t, e = .returned (.tuple #[t, .int .i64 (codeT cl qp)]) ∧ N1 w w' cl qp t ∧ Only [] w w' := by
  unfold codeT
  by_cases h : good cl qp
  · rw [if_pos h]
    obtain ⟨h1, h2, h3, h4⟩ := h
    have := new_any cl.toNat qp.toNat w (by omega) (by omega)
    rw [Int.toNat_of_nonneg h1, Int.toNat_of_nonneg h3] at this
    refine this.mono ?_
    rintro en w' ⟨b, rfl, r1, r2, r3⟩
    exact ⟨_, rfl, .inr ⟨⟨h1, h2, h3, h4⟩, b, rfl, r1, r2⟩, r3⟩
  · rw [if_neg h]
    refine (new_bad cl qp w h).mono ?_
    rintro en w' ⟨rfl, r⟩
    exact ⟨_, rfl, .inl ⟨h, rfl⟩, r⟩

theorem rnew_both {w0 w : World} {cl qp : Int} {t : Value} (h : N1 w0 w cl qp t) (ho : Only [] w0 w) :
    Calls Try.prog 29 #[.int .i64 cl, .int .i64 qp] w fun e w' => ∃ u o, e = .returned (.tuple #[u, .int .i64 (codeT cl qp)]) ∧ N2 w0 w' t u o ∧ Only [] w w' := by
  unfold codeT
  rcases h with ⟨h, rfl⟩ | ⟨h, bt, rfl, hb, hT⟩
  · rw [if_neg h]
    refine (rnew_bad cl qp w h).mono ?_
    rintro en w' ⟨rfl, r⟩
    exact ⟨_, _, rfl, .inl ⟨rfl, rfl, rfl⟩, r⟩
  · rw [if_pos h]
    obtain ⟨h1, h2, h3, h4⟩ := h
    have := rnew_any cl.toNat qp.toNat w (by omega) (by omega)
    rw [Int.toNat_of_nonneg h1, Int.toNat_of_nonneg h3] at this
    refine this.mono ?_
    rintro en w' ⟨b, g, rfl, r1, r2, r3, r4, r5⟩
    have l1 := hT.lt
    have l2 := ho.size
    refine ⟨_, _, rfl, .inr ⟨bt, b, g, _, rfl, rfl, rfl, hT.only r5 (by simp), r4, r3, ?_, hb, by omega, by omega⟩, r5⟩
    simp only [List.mem_cons, List.not_mem_nil, or_false]; omega

theorem N2.only {w0 w w' : World} {t u : Value} {o : Ob} (h : N2 w0 w t u o) (ho : Only [] w w') : N2 w0 w' t u o := by
  rcases h with h | ⟨bt, ru, gt, T, h1, h2, h3, h4, h5, h6⟩
  · exact .inl h
  · exact .inr ⟨bt, ru, gt, T, h1, h2, h3, h4.only ho (by simp), h5.only ho (by simp) (by simp), h6⟩

theorem N2.same {w0 w : World} {t u : Value} {o : Ob} (h : N2 w0 w t u o) : (t = .pointer none ∧ u = .pointer none) ∨ ∃ b c, t = pt b ∧ u = pt c := by
  rcases h with h | ⟨bt, ru, gt, T, h1, h2, _⟩
  · exact .inl ⟨h.1, h.2.1⟩
  · exact .inr ⟨bt, ru, h1, h2⟩

/-- The beginning: the writer and the string. -/
theorem N2.start {w0 w1 w2 w3 : World} {t u : Value} {o : Ob} {bw bs : Nat} {F L : List Nat} (h : N2 w0 w1 t u o) (o1 : Only [] w0 w1) (o2 : Only [] w1 w2) (o3 : Only [] w2 w3) (hW : Wr w2 bw F L) (hb : w1.heap.size ≤ bw) (hF : ∀ x ∈ F, w1.heap.size ≤ x)
    (hs : Sc w3 bs L) (hbs : bs = w2.heap.size) : MS w0 w3 t u (.pointer none) (.pointer none) bw bs L L o o := by
  have s1 := o1.size
  have s2 := o2.size
  have l1 := hW.lt
  have l2 := hW.fresh
  have ho := (o1.trans o2 (by simp)).trans o3 (by simp)
  have hW3 := hW.only o3 (by simp) (by simp)
  have hF0 : ∀ z ∈ bw :: F, w0.heap.size ≤ z := by
    intro z hz
    rcases List.mem_cons.1 hz with q | q
    · omega
    · have := hF z q; omega
  have hbsF : bs ∉ bw :: F := by
    intro hm
    rcases List.mem_cons.1 hm with q | q
    · omega
    · have := l2 bs q; omega
  rcases h with ⟨rfl, rfl, rfl⟩ | ⟨bt, ru, gt, T, rfl, rfl, rfl, h4, h5, h6, h7, h8, h9, h10⟩
  · exact MS.start0 ho hW3 hs hF0 (by omega) hbsF
  · have l3 := h4.lt
    have l4 := h5.lt
    have oo := o2.trans o3 (by simp)
    refine MS.start1 ho hW3 hs hF0 (by omega) hbsF (h4.only oo (by simp)) (h5.only oo (by simp) (by simp)) h6 h8 h9 h10 ?_ h7
    intro z hz hm
    have hz' : z < w1.heap.size := by
      simp only [List.mem_cons, List.not_mem_nil, or_false] at hz
      omega
    simp only [List.mem_cons] at hm
    rcases hm with q | q | q
    · omega
    · omega
    · have := hF z q; omega

/-- What a call's cells hold, whenever. -/
theorem ActsIn.at {w : World} {a : Option Addr} {cap : Nat} {G : List Nat} {l : List Ac} (h : ActsIn w (.slice a l.length cap) G l) (k : Nat) (hk : k < l.length) :
    ∃ g off, a = some ⟨g, off, none⟩ ∧ l.length ≤ cap ∧ cap ≤ 9223372036854775807 ∧ ∀ W, Only [] w W → g < W.heap.size ∧ W.cell? ⟨g, off + k * 4, none⟩ = some (.int .u8 l[k].what) ∧ W.cell? ⟨g, off + k * 4 + 1, none⟩ = some (.int .i64 l[k].c) ∧ W.cell? ⟨g, off + k * 4 + 2, none⟩ = some (.int .u8 l[k].bit) ∧ W.cell? ⟨g, off + k * 4 + 3, none⟩ = some (.bool l[k].e) := by
  rcases h.here with hn | ⟨g, off, c, hv, hG, hg, hc, hm, hcells⟩
  · exfalso; rw [hn] at hk; simp at hk
  · obtain ⟨rfl, rfl⟩ : a = some ⟨g, off, none⟩ ∧ cap = c := by simpa using hv
    refine ⟨g, off, rfl, hc, hm, fun W ho => ⟨Nat.lt_of_lt_of_le hg ho.size, ?_⟩⟩
    have e : ∀ q, W.cell? ⟨g, q, none⟩ = w.cell? ⟨g, q, none⟩ := fun q => World.cell?_of_block (ho.block g hg (by simp))
    rw [e, e, e, e]
    exact hcells k hk

theorem many_eq (n : Int) : Int.tmod (Int.tmod n 21 + 21) 21 = (restN n 21 : Int) := by
  have h := tmod_pos (n := n) (m := 21) (by decide)
  rw [Int.tmod_eq_emod_of_nonneg (by omega)]
  exact rest_eq n 21 (by decide)

theorem Ob.stop_sum {o : Ob} (h : o.ok) (e : Bool) (L : List Nat) : (Ob.stop o e).2.d + (L ++ Ob.outs o e).length ≤ o.d + L.length + 9 := by
  rw [List.length_append]
  cases e with
  | false =>
    have := Ob.stop0_d h
    show o.stop0.2.d + (L.length + 0) ≤ _
    omega
  | true =>
    have h1 := Ob.stop1_d o
    have h2 := Ob.out_len o
    show o.stop1.2.d + (L.length + o.out.length) ≤ _
    omega

theorem MS.drew {w0 w : World} {t u x y : Value} {bw bs : Nat} {LP LR : List Nat} {p r : Ob} (h : MS w0 w t u x y bw bs LP LR p r) : MS w0 w.drew t u x y bw bs LP LR p r := h.next (Only.refl [] w).drew

theorem len_only {w : World} {b : Nat} {F L : List Nat} (h : Wr w b F L) (hL : L.length ≤ 1099511627776) :
    Calls Try.prog 26 #[.pointer (some ⟨b, 0, none⟩)] w fun e w' => e = .returned (.int .i64 L.length) ∧ Only [] w w' := by
  refine (len_any h hL).mono ?_
  rintro en w' ⟨rfl, n, rfl⟩
  exact ⟨rfl, (Only.refl [] w).drewN n⟩

end Go.Proofs.Ytbpdhfenomebpaa
