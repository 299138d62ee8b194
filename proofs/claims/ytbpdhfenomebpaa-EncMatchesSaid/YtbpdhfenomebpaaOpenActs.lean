/-
  Arguments that came in: slices of calls (law 25's Act).
-/
import Derived.Test.YtbpdhfenomebpaaOpen
import Derived.Deep.Strs
namespace Go.Proofs.Ytbpdhfenomebpaa
open Go.RowKit Go.ChangeShapes Go.WideShapes Go.ChangeAt Go.Deep Sp

/-- A call: what, the bin, the end. -/
structure Ac where
  what : Nat
  c : Int
  bit : Nat
  e : Bool
deriving Inhabited

def Ac.cells (a : Ac) : List Value := [.int .u8 a.what, .int .i64 a.c, .int .u8 a.bit, .bool a.e]

def Ac.wf (a : Ac) : Prop := a.what < 256 ∧ -9223372036854775808 ≤ a.c ∧ a.c ≤ 9223372036854775807 ∧ a.bit < 256

/-- The slice v holds the calls l; G: its block, if there is one. -/
structure ActsIn (w : World) (v : Value) (G : List Nat) (l : List Ac) : Prop where
  form : ∃ a cap, v = .slice a l.length cap
  here : l = [] ∨ ∃ g off cap, v = .slice (some ⟨g, off, none⟩) l.length cap ∧ G = [g] ∧ g < w.heap.size ∧ l.length ≤ cap ∧ cap ≤ 9223372036854775807 ∧
    ∀ k (h : k < l.length), w.cell? ⟨g, off + k * 4, none⟩ = some (.int .u8 l[k].what) ∧ w.cell? ⟨g, off + k * 4 + 1, none⟩ = some (.int .i64 l[k].c) ∧ w.cell? ⟨g, off + k * 4 + 2, none⟩ = some (.int .u8 l[k].bit) ∧ w.cell? ⟨g, off + k * 4 + 3, none⟩ = some (.bool l[k].e)

theorem ActsIn.only {w w' : World} {v : Value} {G S : List Nat} {l : List Ac} (h : ActsIn w v G l) (ho : Only S w w') (hS : ∀ g ∈ G, g ∉ S) : ActsIn w' v G l := by
  refine ⟨h.form, ?_⟩
  rcases h.here with h | ⟨g, off, cap, hv, hG, hg, hc, hm, hk⟩
  · exact .inl h
  · have hgS : g ∉ S := hS g (by rw [hG]; simp)
    have e : ∀ o, w'.cell? ⟨g, o, none⟩ = w.cell? ⟨g, o, none⟩ := fun o => World.cell?_of_block (ho.block g hg hgS)
    exact .inr ⟨g, off, cap, hv, hG, Nat.lt_of_lt_of_le hg ho.size, hc, hm, fun k hk' => by rw [e, e, e, e]; exact hk k hk'⟩

section
variable {H : Type} {enc : TypeId × Value → H} {W : World} {base : Nat} {sp : Nat → Bool}

theorem cellsAct : Try.prog.cellsOf 55 = 4 := by kernel_rfl

set_option maxRecDepth 100000 in
theorem open_act {n : Nat} {cs : List Value} {x : DataW H × List MemPlace} (h : DataW.trod enc Try.prog W base sp true n 55 cs = some x) : ∃ a : Ac, cs = a.cells ∧ a.wf := by
  obtain ⟨y0, y1, y2, m, _, hl, h0, h1, h2⟩ := trod_struct3 Try.underlying55 h
  rw [cellsAct] at hl
  match cs, hl with
  | [c0, c1, c2, c3], _ =>
    have h0' : DataW.trod enc Try.prog W base sp true m 5 [c0] = some y0 := h0
    have h1' : DataW.trod enc Try.prog W base sp true m 25 [c1, c2] = some y1 := h1
    have h2' : DataW.trod enc Try.prog W base sp true m 4 [c3] = some y2 := h2
    clear h0 h1 h2
    obtain ⟨a, e0, _, wa⟩ := DataW.trod_int Try.underlying5 h0'
    obtain ⟨b, e1, b1, b2, b3⟩ := open_bin h1'
    obtain ⟨t, e2, _⟩ := DataW.trod_bool Try.underlying4 h2'
    have ba := bounds_u8 wa
    obtain ⟨a, rfl⟩ := Int.eq_ofNat_of_zero_le ba.1
    simp only [List.cons.injEq, and_true] at e0 e1 e2
    exact ⟨⟨a, b.1, b.2, t⟩, by rw [e0, e1.1, e1.2, e2]; rfl, (by simp only []; omega), b1, b2, b3⟩

theorem open_acts {a : Option Addr} {len cap : Nat} {d : DataW H} {p : List MemPlace} (h : DataW.Trod enc Try.prog W base sp true 44 (.slice a len cap) d p) :
    ∃ (G : List Nat) (l : List Ac), l.length = len ∧ len ≤ 9223372036854775807 ∧ ActsIn W (.slice a l.length cap) G l ∧ ∀ x ∈ l, x.wf := by
  obtain ⟨fuel, hf⟩ := h
  rcases open_slice Try.underlying44 hf with ⟨hcs, _⟩ | ⟨x, l, c, m, n, D, Pl, hcs, _, hl, hm, hmm, _, hi⟩
  · simp [Value.cells] at hcs
    obtain ⟨rfl, rfl, rfl⟩ := hcs
    exact ⟨[], [], rfl, by omega, ⟨⟨_, _, rfl⟩, .inl rfl⟩, by simp⟩
  · simp [Value.cells] at hcs
    obtain ⟨rfl, rfl, rfl⟩ := hcs
    have hlm : len ≤ m := by rw [hmm]; split <;> omega
    unfold maxLen at hm
    rw [cellsAct] at hi
    obtain ⟨V, hV⟩ := choose_lt (α := Ac) (n := len) (p := fun i (v : Ac) => W.cell? (x.add (i * 4)) = some (.int .u8 v.what) ∧ W.cell? (x.add (i * 4 + 1)) = some (.int .i64 v.c) ∧ W.cell? (x.add (i * 4 + 2)) = some (.int .u8 v.bit) ∧ W.cell? (x.add (i * 4 + 3)) = some (.bool v.e) ∧ v.wf) (fun i hi' => by
      obtain ⟨cs', h1, h2⟩ := hi i (by omega)
      obtain ⟨b, rfl, q⟩ := open_act h2
      obtain ⟨_, _, hat⟩ := World.cells?_some h1
      have e0 := hat 0 (by decide)
      have e1 := hat 1 (by decide)
      have e2 := hat 2 (by decide)
      have e3 := hat 3 (by decide)
      rw [add_add] at e0 e1 e2 e3
      exact ⟨b, e0, e1, e2, e3, q⟩)
    refine ⟨[x.block], (List.range len).map V, by simp, by omega, ⟨⟨_, _, rfl⟩, ?_⟩, ?_⟩
    · by_cases h0 : len = 0
      · left; simp [h0]
      · right
        obtain ⟨b, off, spot⟩ := x
        have hspot : spot = none := by simpa [Addr.add] using World.cell?_spot (hV 0 (by omega)).1
        subst hspot
        refine ⟨b, off, cap, rfl, rfl, ?_, by simpa using hl, by omega, fun k hk => ?_⟩
        · have := (hV 0 (by omega)).1
          rw [add_plain] at this
          exact World.block_lt_of_cell? W _ this
        · have hk' : k < len := by simpa using hk
          obtain ⟨q0, q1, q2, q3, _⟩ := hV k hk'
          rw [add_plain] at q0 q1 q2 q3
          simp only [List.getElem_map, List.getElem_range]
          exact ⟨q0, by rw [Nat.add_assoc]; exact q1, by rw [Nat.add_assoc]; exact q2, by rw [Nat.add_assoc]; exact q3⟩
    · intro y hy
      obtain ⟨i, hi2, rfl⟩ := List.mem_map.1 hy
      exact (hV i (List.mem_range.1 hi2)).2.2.2.2

end

end Go.Proofs.Ytbpdhfenomebpaa
