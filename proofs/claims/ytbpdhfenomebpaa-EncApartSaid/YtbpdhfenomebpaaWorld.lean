/-
  Lemmas on worlds: which blocks a call may have turned; blocks that are known whole; slices that own their row. No function of the program is named.
-/
import Derived.WalkKit
import Derived.WalkLawsBesides
import Derived.WalkSpells
import Derived.Handy
import Derived.Lib.Hide
import Derived.Deep.DeepCutAuto
import Derived.Deep.CutRange
import Derived.Deep.QuietTactic
import Derived.BigQuiet
import Derived.StillTailTactics
import Derived.Deep.RegionLaw
import Derived.Deep.RegionHeld3
import Derived.Deep.AppendLies
namespace Go.Proofs.Ytbpdhfenomebpaa
open Go.RowKit

/-- Of what was there, only the blocks of S may have turned. -/
structure Only (S : List Nat) (w w' : World) : Prop where
  os : w'.os = w.os
  tape : w'.tape = w.tape
  output : w'.output = w.output
  size : w.heap.size ≤ w'.heap.size
  block : ∀ k, k < w.heap.size → k ∉ S → w'.heap[k]? = w.heap[k]?

theorem Only.refl (S : List Nat) (w : World) : Only S w w := ⟨rfl, rfl, rfl, Nat.le_refl _, fun _ _ _ => rfl⟩

theorem Only.trans {S T : List Nat} {a b c : World} (h : Only S a b) (k : Only T b c) (hs : ∀ x ∈ T, x ∈ S ∨ a.heap.size ≤ x) : Only S a c :=
  ⟨k.os.trans h.os, k.tape.trans h.tape, k.output.trans h.output, Nat.le_trans h.size k.size, fun i hi hn => by
    rw [k.block i (Nat.lt_of_lt_of_le hi h.size) (fun e => by rcases hs i e with h1 | h1; exact hn h1; omega)]
    exact h.block i hi hn⟩

theorem Only.mono {S T : List Nat} {a b : World} (h : Only S a b) (hs : ∀ x ∈ S, x ∈ T) : Only T a b :=
  ⟨h.os, h.tape, h.output, h.size, fun i hi hn => h.block i hi (fun e => hn (hs i e))⟩

theorem Only.alloc {S : List Nat} {a w : World} (h : Only S a w) (o : Obj) : Only S a (w.alloc o) :=
  h.trans (T := []) ⟨rfl, rfl, rfl, by simp, fun k hk _ => Below.heap_alloc _ _ _ hk⟩ (by simp)

theorem Only.drew {S : List Nat} {a w : World} (h : Only S a w) : Only S a w.drew := ⟨h.os, h.tape, h.output, h.size, h.block⟩

theorem Only.drewN {S : List Nat} {a w : World} (h : Only S a w) (n : Nat) : Only S a (w.drewN n) := ⟨h.os, h.tape, h.output, h.size, h.block⟩

theorem Only.setCell {S : List Nat} {a w : World} (h : Only S a w) (p : Addr) (hp : p.block ∈ S ∨ a.heap.size ≤ p.block) (v : Value) : Only S a (w.setCell p v) :=
  h.trans (T := [p.block]) ⟨rfl, rfl, rfl, by simp [World.setCell], fun k _ hn => Below.heap_setCell _ _ _ _ (by simpa using hn)⟩ (by simpa using hp)

theorem Only.of_grown {S : List Nat} {a w w' : World} {row : Option Nat} (h : Only S a w) (hg : w.grownBy w' row) (hr : ∀ k, row = some k → k ∈ S ∨ a.heap.size ≤ k) : Only S a w' :=
  h.trans (T := row.toList) ⟨hg.os, hg.tape, hg.output, hg.size, fun k hk hn => hg.block k hk (fun e => hn (by rw [← e]; simp))⟩
    (fun x hx => hr x (by cases row <;> simp_all))

theorem Only.heap {S : List Nat} {a b : World} (h : Only S a b) {k : Nat} {o : Obj} (hk : a.heap[k]? = some o) (hn : k ∉ S) : b.heap[k]? = some o :=
  (h.block k (lt_of_block hk) hn).trans hk

theorem Only.grownBy {S : List Nat} {a b : World} (h : Only S a b) (row : Option Nat) (hr : ∀ x ∈ S, some x = row) : a.grownBy b row :=
  ⟨h.os, h.tape, h.output, h.size, fun k hk hne => h.block k hk (fun e => hne (hr k e))⟩

theorem Only.below {S : List Nat} {a b : World} (h : Only S a b) (hS : ∀ x ∈ S, a.heap.size ≤ x) : Below a.heap.size a b :=
  ⟨h.os, h.tape, h.output, h.size, fun k hk => h.block k hk (fun e => by have := hS k e; omega)⟩

/-- A block that is known whole. -/
def Blk (w : World) (b : Nat) (vs : Array Value) (t : TypeId) : Prop := w.heap[b]? = some (.cells vs t (0, 0))

section
variable {w : World} {b : Nat} {vs : Array Value} {t : TypeId} (h : Blk w b vs t)
include h
theorem Blk.lt : b < w.heap.size := lt_of_block h
theorem Blk.cell (i : Nat) : w.cell? ⟨b, i, none⟩ = vs[i]? := by simp [World.cell?, show w.heap[b]? = _ from h]
theorem Blk.free (i : Nat) : w.frozen? ⟨b, i, none⟩ = false := by simp [World.frozen?, show w.heap[b]? = _ from h]
theorem Blk.set (i : Nat) (v : Value) : Blk (w.setCell ⟨b, i, none⟩ v) b (vs.setIfInBounds i v) t := by
  have hlt := h.lt
  have h' : w.heap[b] = .cells vs t (0, 0) := by simpa [Array.getElem?_eq_getElem hlt] using (show w.heap[b]? = _ from h)
  show (w.heap.modify b _)[b]? = _
  rw [Array.getElem?_eq_getElem (by simpa using hlt), Array.getElem_modify_self, h']
  rfl
theorem Blk.other (p : Addr) (hne : b ≠ p.block) (v : Value) : Blk (w.setCell p v) b vs t := (Below.heap_setCell _ _ _ _ hne).trans h
theorem Blk.alloc (o : Obj) : Blk (w.alloc o) b vs t := (Below.heap_alloc _ _ _ h.lt).trans h
theorem Blk.drew : Blk w.drew b vs t := h
theorem Blk.drewN (n : Nat) : Blk (w.drewN n) b vs t := h
theorem Blk.only {S : List Nat} {w' : World} (ho : Only S w w') (hn : b ∉ S) : Blk w' b vs t := ho.heap h hn
end
theorem Blk.new (w : World) (vs : Array Value) (t : TypeId) : Blk (w.alloc (.cells vs t)) w.heap.size vs t := heap_alloc_new w _
theorem Blk.new' {w : World} {n : Nat} (vs : Array Value) (t : TypeId) (hn : n = w.heap.size) : Blk (w.alloc (.cells vs t)) n vs t := by subst hn; exact heap_alloc_new w _

/-- A slice that holds these cells in a row of its own (nil if there are none and it never had any). -/
def Sl (w : World) (e : TypeId) (size : Nat) (v : Value) (n : Nat) (xs : List Value) : Prop := w.ownsRow 0 e size v n xs

section
variable {w : World} {e : TypeId} {size : Nat} {v : Value} {n : Nat} {xs : List Value}
theorem Sl.lt (h : Sl w e size v n xs) {k : Nat} (hk : v.ownBlock = some k) : k < w.heap.size := (World.ownsRow.lt h k hk).2
theorem Sl.only {S : List Nat} {w' : World} (h : Sl w e size v n xs) (ho : Only S w w') (hn : ∀ k, v.ownBlock = some k → k ∉ S) : Sl w' e size v n xs := by
  obtain ⟨h1, h2⟩ := h
  refine ⟨h1, ?_⟩
  rcases h2 with h2 | ⟨g, cap, cur, hv, hg, hh, r⟩
  · exact .inl h2
  · subst hv
    exact .inr ⟨g, cap, cur, rfl, hg, ho.heap hh (hn g rfl), r⟩
theorem Sl.nil (w : World) (e : TypeId) (size : Nat) : Sl w e size (.slice none 0 0) 0 [] := World.ownsRow_nil w 0 e size
theorem Sl.alloc (h : Sl w e size v n xs) (o : Obj) : Sl (w.alloc o) e size v n xs := h.only ((Only.refl [] w).alloc o) (by simp)
theorem Sl.drew (h : Sl w e size v n xs) : Sl w.drew e size v n xs := h
theorem Sl.drewN (h : Sl w e size v n xs) (k : Nat) : Sl (w.drewN k) e size v n xs := h
theorem Sl.set_other (h : Sl w e size v n xs) (p : Addr) (hp : v.ownBlock ≠ some p.block) (u : Value) : Sl (w.setCell p u) e size v n xs :=
  ownsRow_setCell_other h hp u
end

theorem Sl.cells {w : World} {e : TypeId} {size g cap n : Nat} {xs : List Value} (h : Sl w e size (.slice (some ⟨g, 0, none⟩) n cap) n xs) (j : Nat) (hj : j < n * size) : w.cell? ⟨g, j, none⟩ = xs[j]? :=
  World.ownsRow.cellAt h j hj
theorem Sl.free {w : World} {e : TypeId} {size g cap n : Nat} {xs : List Value} (h : Sl w e size (.slice (some ⟨g, 0, none⟩) n cap) n xs) (j : Nat) : w.frozen? ⟨g, j, none⟩ = false :=
  World.ownsRow.frozenAt h j
theorem Sl.set {w : World} {e : TypeId} {size g cap n : Nat} {xs : List Value} (h : Sl w e size (.slice (some ⟨g, 0, none⟩) n cap) n xs) (j : Nat) (u : Value) :
    Sl (w.setCell ⟨g, j, none⟩ u) e size (.slice (some ⟨g, 0, none⟩) n cap) n (xs.set j u) :=
  (World.ownsRow.stored h j u).1
theorem Sl.len {w : World} {e : TypeId} {size : Nat} {v : Value} {n : Nat} {xs : List Value} (h : Sl w e size v n xs) : xs.length = n * size := h.1

/-- What an append leaves of the slice and of all else. -/
theorem Only.appended {w W w1 : World} {row : Option Nat} (hW : Only [] w W) (hg : W.grownBy w1 row) : Only row.toList w w1 :=
  (hW.mono (by simp)).of_grown hg (fun k hk => .inl (by rw [hk]; simp))

end Go.Proofs.Ytbpdhfenomebpaa
