/-
  The encoder: shift, add, renormalize.
-/
import Derived.Test.YtbpdhfenomebpaaWr2
namespace Go.Proofs.Ytbpdhfenomebpaa
open Go.RowKit Sp

/-- Block b is an encoder at e, over the writer in block bw and the table in block bt; H: the block of its head, if there is one. -/
structure Enc (w : World) (b bw bt : Nat) (H : List Nat) (e : E) : Prop where
  here : ∃ v : Value, Blk w b #[.pointer (some ⟨bw, 0, none⟩), .pointer (some ⟨bt, 0, none⟩), v, .int .i64 ((e.c % 512 : Nat)), .int .i64 e.r, .bool false] 152 ∧
    Sl w 5 1 v e.d ((bitsOf e.d (e.c / 512)).map byteV) ∧ H = v.ownBlock.toList

theorem Enc.lt {w : World} {b bw bt : Nat} {H : List Nat} {e : E} (h : Enc w b bw bt H e) : b < w.heap.size := by
  obtain ⟨v, hblk, _⟩ := h.here
  exact hblk.lt
theorem Enc.fresh {w : World} {b bw bt : Nat} {H : List Nat} {e : E} (h : Enc w b bw bt H e) : ∀ x ∈ H, x < w.heap.size := by
  obtain ⟨v, hblk, hsl, hF⟩ := h.here
  intro x hx
  rw [hF] at hx
  exact hsl.lt (by simpa using hx)
theorem Enc.only {w w' : World} {b bw bt : Nat} {H S : List Nat} {e : E} (h : Enc w b bw bt H e) (ho : Only S w w') (hb : b ∉ S) (hS : ∀ x ∈ H, x ∉ S) : Enc w' b bw bt H e := by
  obtain ⟨v, hblk, hsl, hF⟩ := h.here
  exact ⟨⟨v, hblk.only ho hb, hsl.only ho (fun k hk => hS k (by rw [hF, hk]; simp)), hF⟩⟩

/-- Two blocks of different element types are two blocks. -/
theorem Blk.ne_row {w : World} {b : Nat} {vs : Array Value} {t e : TypeId} {size : Nat} {v : Value} {n : Nat} {xs : List Value} (hb : Blk w b vs t) (h : Sl w e size v n xs) (hte : t ≠ e) : ∀ k, v.ownBlock = some k → k ≠ b := by
  rintro k hk rfl
  rcases h.2 with ⟨rfl, _⟩ | ⟨g', cap', cur, rfl, _, hg, _⟩
  · cases hk
  · simp only [Value.ownBlock, Option.some.injEq] at hk
    subst hk
    rw [show w.heap[g']? = _ from hb] at hg
    simp only [Option.some.injEq, Obj.cells.injEq] at hg
    exact hte hg.2.1

set_option maxRecDepth 100000 in
set_option maxHeartbeats 1600000 in
theorem shift_any {w : World} {b bw bt : Nat} {H : List Nat} {e : E} (h : Enc w b bw bt H e) (hd : e.d ≤ 1099511627776) :
    Calls Try.prog 132 #[.pointer (some ⟨b, 0, none⟩)] w fun en w' => en = .returned (.tuple #[]) ∧
      ∃ H', Enc w' b bw bt H' ⟨2 * e.c, e.d + 1, e.r⟩ ∧ (∀ x ∈ H', x ∈ H ∨ w.heap.size ≤ x) ∧ Only (b :: H) w w' := by
  obtain ⟨i0, hi, hz0, hz1, hz2⟩ := info_parts info_u8
  obtain ⟨v, hblk, hsl, hH⟩ := h.here
  obtain ⟨c, d, r⟩ := e
  simp only [] at *
  have hb := hblk.lt
  have hbk : ∀ j, b < w.heap.size + j := fun j => by omega
  have hne := hblk.ne_row hsl (by decide)
  have c2 : w.cell? ⟨b, 2, none⟩ = some v := (hblk.cell 2).trans rfl
  have c3 : w.cell? ⟨b, 3, none⟩ = some (.int .i64 ((c % 512 : Nat))) := (hblk.cell 3).trans rfl
  have f2 := hblk.free 2
  have f3 := hblk.free 3
  have hlow : c % 512 < 512 := by omega
  have q4 : d + 1 ≤ maxLen := by unfold maxLen; omega
  have q5 : (d + 1) * 1 ≤ 140737488355328 := by omega
  obtain ⟨low, hl⟩ : ∃ low, low = c % 512 := ⟨_, rfl⟩
  rw [← hl] at c3 hlow
  have hwr : IntKind.u8.wrap ((low : Int) / 256) = (low : Int) / 256 := by rw [IntKind.wrap_u8]; omega
  have ha := and_511 ((low : Int) * 2) (by omega) (by omega)
  have HL := Lib.hid hl
  have HB := Lib.hid hblk
  have HS := Lib.hid hsl
  have HH := Lib.hid hH
  have HN := Lib.hid hne
  clear hblk hsl hH hne h hl
  go_enter Try.func132, Try.ntmps132
  go_wp2
  go_region_law (
    refine step_append_lies _ rfl (.tmp 6) (.tmp 13) 57 rfl 0 5 i0 (.int .u8 0) 1 1 Try.underlying57 hi hz0 hz1 hz2 rfl (by decide) v d ((bitsOf d (c / 512)).map byteV) rfl ?_ ⟨_, 0, none⟩ 1 1 [.int .u8 ((low : Int) / 256)] rfl rfl ?_ ?_ (by decide) ?_ ?_ (Nat.zero_le _) _ rfl ?_
    · exact ((HS.out.alloc _).drew)
    · exact World.news_of_block (cs := #[_]) ((Blk.new' _ _ (by simp)).drew)
    · simp [Value.oneCell']
    · exact q4
    · exact q5
    intro g cap w1 hown hgrow hat hlt
    have h1 := (Only.refl [] w).alloc (.cells #[.int .u8 ((low : Int) / 256)] 5) |>.drew
    have h2 := h1.appended hgrow
    have h3 := HB.out.only h2 (fun x => HN.out b (by simpa using x) rfl)
    have c2' : w1.cell? ⟨b, 2, none⟩ = some v := (h3.cell 2).trans rfl
    have f2' := h3.free 2
    have c3' : w1.cell? ⟨b, 3, none⟩ = some (.int .i64 low) := (h3.cell 3).trans (by rw [HL.out]; rfl)
    have f3' := h3.free 3
    have hgb : g ≠ b := h3.ne_row hown (by decide) g rfl
    have hg : g ∈ H ∨ w.heap.size ≤ g := by
      rcases hat with x | x
      · exact .inl (by rw [HH.out, x]; simp)
      · exact .inr (by rw [x]; simp)
    have H1 := Lib.hid hown
    have H2 := Lib.hid h2
    have H3 := Lib.hid h3
    clear hown hgrow hat h1 h2 h3)
  all_goals
    go_wp2
    go_returns
    have e1 : bitsOf (d + 1) (2 * c / 512) = bitsOf d (c / 512) ++ [low / 256] := by
      have := HL.out
      simp only [bitsOf]
      rw [show 2 * c / 512 / 2 = c / 512 by omega, show 2 * c / 512 % 2 = low / 256 by omega]
    have e2 : ((2 * c % 512 : Nat) : Int) = (low : Int) * 2 % 512 := by have := HL.out; omega
    refine ⟨rfl, [g], ⟨⟨.slice (some ⟨g, 0, none⟩) (d + 1) cap, ?_, ?_, rfl⟩⟩, ?_, ?_⟩
    · simp only []
      rw [e2]
      exact (H3.out.set 2 _).set 3 _
    · simp only []
      rw [e1, List.map_append]
      exact (Sl.set_other (Sl.set_other H1.out ⟨b, 2, none⟩ (by simpa [Value.ownBlock] using hgb) _) ⟨b, 3, none⟩ (by simpa [Value.ownBlock] using hgb) _)
    · intro x hx
      simp only [List.mem_singleton] at hx
      subst hx
      exact hg
    · refine (((Only.mono H2.out ?_).setCell ⟨b, 2, none⟩ (by simp) _).setCell ⟨b, 3, none⟩ (by simp) _)
      intro x hx
      rw [HH.out]
      exact List.mem_cons_of_mem _ hx

end Go.Proofs.Ytbpdhfenomebpaa
