/-
  Arguments that came in: slices of ints, of bools.
-/
import Derived.Test.YtbpdhfenomebpaaOpen
import Derived.Deep.Strs
namespace Go.Proofs.Ytbpdhfenomebpaa
open Go.RowKit Go.ChangeShapes Go.WideShapes Go.ChangeAt Go.Deep Sp

/-- The slice v holds the values f x of the list l, a cell each; G: its block, if there is one. -/
structure OneIn {α : Type} (f : α → Value) (w : World) (v : Value) (G : List Nat) (l : List α) : Prop where
  form : ∃ a cap, v = .slice a l.length cap
  here : l = [] ∨ ∃ g off cap, v = .slice (some ⟨g, off, none⟩) l.length cap ∧ G = [g] ∧ g < w.heap.size ∧ l.length ≤ cap ∧ cap ≤ 9223372036854775807 ∧
    ∀ k (h : k < l.length), w.cell? ⟨g, off + k, none⟩ = some (f l[k])

theorem OneIn.only {α : Type} {f : α → Value} {w w' : World} {v : Value} {G S : List Nat} {l : List α} (h : OneIn f w v G l) (ho : Only S w w') (hS : ∀ g ∈ G, g ∉ S) : OneIn f w' v G l := by
  refine ⟨h.form, ?_⟩
  rcases h.here with h | ⟨g, off, cap, hv, hG, hg, hc, hm, hk⟩
  · exact .inl h
  · have hgS : g ∉ S := hS g (by rw [hG]; simp)
    exact .inr ⟨g, off, cap, hv, hG, Nat.lt_of_lt_of_le hg ho.size, hc, hm, fun k hk' => by rw [World.cell?_of_block (ho.block g hg hgS)]; exact hk k hk'⟩

/-- What a cell holds, whenever. -/
theorem OneIn.at {α : Type} {f : α → Value} {w : World} {a : Option Addr} {cap : Nat} {G : List Nat} {l : List α} (h : OneIn f w (.slice a l.length cap) G l) (k : Nat) (hk : k < l.length) :
    ∃ g off, a = some ⟨g, off, none⟩ ∧ l.length ≤ cap ∧ cap ≤ 9223372036854775807 ∧ ∀ W, Only [] w W → g < W.heap.size ∧ W.cell? ⟨g, off + k, none⟩ = some (f l[k]) := by
  rcases h.here with hn | ⟨g, off, c, hv, hG, hg, hc, hm, hcells⟩
  · exfalso; rw [hn] at hk; simp at hk
  · obtain ⟨rfl, rfl⟩ : a = some ⟨g, off, none⟩ ∧ cap = c := by simpa using hv
    refine ⟨g, off, rfl, hc, hm, fun W ho => ⟨Nat.lt_of_lt_of_le hg ho.size, ?_⟩⟩
    rw [World.cell?_of_block (ho.block g hg (by simp))]
    exact hcells k hk

abbrev intV (n : Int) : Value := .int .i64 n
abbrev boolV (b : Bool) : Value := .bool b

section
variable {H : Type} {enc : TypeId × Value → H} {W : World} {base : Nat} {sp : Nat → Bool}

theorem cells4 : Try.prog.cellsOf 4 = 1 := by kernel_rfl

theorem open_one {α : Type} [Inhabited α] {T e : TypeId} (hT : Try.prog.underlying T = some (.slice e)) (he : Try.prog.cellsOf e = 1) (f : α → Value) (ok : α → Prop)
    (hone : ∀ {n : Nat} {cs : List Value} {x : DataW H × List MemPlace}, DataW.trod enc Try.prog W base sp true n e cs = some x → ∃ v, cs = [f v] ∧ ok v)
    {a : Option Addr} {len cap : Nat} {d : DataW H} {p : List MemPlace} (h : DataW.Trod enc Try.prog W base sp true T (.slice a len cap) d p) :
    ∃ (G : List Nat) (l : List α), l.length = len ∧ len ≤ 9223372036854775807 ∧ OneIn f W (.slice a l.length cap) G l ∧ ∀ x ∈ l, ok x := by
  obtain ⟨fuel, hf⟩ := h
  rcases open_slice hT hf with ⟨hcs, _⟩ | ⟨x, l, c, m, n, D, Pl, hcs, _, hl, hm, hmm, _, hi⟩
  · simp [Value.cells] at hcs
    obtain ⟨rfl, rfl, rfl⟩ := hcs
    exact ⟨[], [], rfl, by omega, ⟨⟨_, _, rfl⟩, .inl rfl⟩, by simp⟩
  · simp [Value.cells] at hcs
    obtain ⟨rfl, rfl, rfl⟩ := hcs
    have hlm : len ≤ m := by rw [hmm]; split <;> omega
    unfold maxLen at hm
    rw [he] at hi
    obtain ⟨V, hV⟩ := choose_lt (α := α) (n := len) (p := fun i (v : α) => W.cell? (x.add i) = some (f v) ∧ ok v) (fun i hi' => by
      obtain ⟨cs', h1, h2⟩ := hi i (by omega)
      obtain ⟨b, rfl, q1⟩ := hone h2
      obtain ⟨_, _, hat⟩ := World.cells?_some h1
      have e0 := hat 0 (by decide)
      rw [add_add] at e0
      exact ⟨b, by simpa using e0, q1⟩)
    refine ⟨[x.block], (List.range len).map V, by simp, by omega, ⟨⟨_, _, rfl⟩, ?_⟩, ?_⟩
    · by_cases h0 : len = 0
      · left; simp [h0]
      · right
        obtain ⟨b, off, spot⟩ := x
        have hspot : spot = none := by simpa [Addr.add] using World.cell?_spot (hV 0 (by omega)).1
        subst hspot
        refine ⟨b, off, cap, rfl, rfl, ?_, by simpa using hl, by omega, fun k hk => ?_⟩
        · have := (hV 0 (by omega)).1
          rw [add_plain] at this
          exact World.block_lt_of_cell? W _ this
        · have hk' : k < len := by simpa using hk
          obtain ⟨q0, _⟩ := hV k hk'
          rw [add_plain] at q0
          simp only [List.getElem_map, List.getElem_range]
          exact q0
    · intro y hy
      obtain ⟨i, hi2, rfl⟩ := List.mem_map.1 hy
      exact (hV i (List.mem_range.1 hi2)).2

theorem open_ints_in {a : Option Addr} {len cap : Nat} {d : DataW H} {p : List MemPlace} (h : DataW.Trod enc Try.prog W base sp true 79 (.slice a len cap) d p) :
    ∃ (G : List Nat) (l : List Int), l.length = len ∧ len ≤ 9223372036854775807 ∧ OneIn intV W (.slice a l.length cap) G l ∧ ∀ x ∈ l, -9223372036854775808 ≤ x ∧ x ≤ 9223372036854775807 :=
  open_one Try.underlying79 cells3 intV _ (fun {n cs x} h => by
    obtain ⟨a, e0, _, wa⟩ := DataW.trod_int Try.underlying3 h
    exact ⟨a, e0, bounds_i64 wa⟩) h

theorem open_bools_in {a : Option Addr} {len cap : Nat} {d : DataW H} {p : List MemPlace} (h : DataW.Trod enc Try.prog W base sp true 80 (.slice a len cap) d p) :
    ∃ (G : List Nat) (l : List Bool), l.length = len ∧ len ≤ 9223372036854775807 ∧ OneIn boolV W (.slice a l.length cap) G l := by
  obtain ⟨G, l, h1, h2, h3, _⟩ := open_one (α := Bool) Try.underlying80 cells4 boolV (fun _ => True) (fun {n cs x} h => by
    obtain ⟨a, e0, _⟩ := DataW.trod_bool Try.underlying4 h
    exact ⟨a, e0, trivial⟩) h
  exact ⟨G, l, h1, h2, h3⟩

end

end Go.Proofs.Ytbpdhfenomebpaa
