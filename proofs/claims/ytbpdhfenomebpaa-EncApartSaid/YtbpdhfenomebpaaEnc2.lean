/-
  The encoder: add.
-/
import Derived.Test.YtbpdhfenomebpaaEnc
namespace Go.Proofs.Ytbpdhfenomebpaa
open Go.RowKit Sp

theorem bitsOf_at (k u : Nat) (z : List Nat) : (bitsOf (k + 1) u ++ z)[k]? = some (u % 2) := by
  simp only [bitsOf, List.append_assoc]
  rw [List.getElem?_append_right (by simp)]
  simp

theorem bitsOf_put (k u x : Nat) (z : List Nat) : (bitsOf (k + 1) u ++ z).set k x = bitsOf k (u / 2) ++ x :: z := by
  simp only [bitsOf, List.append_assoc]
  rw [List.set_append_right _ _ (by simp)]
  simp

/-- What the loop of add keeps: the bits before place i still say u, those behind it are 0. -/
structure AddRel (w wr : World) (b g cap d i u m : Nat) (t : List Nat) : Prop where
  len : i + 1 + m = d
  row : Sl wr 5 1 (.slice (some ⟨g, 0, none⟩) d cap) d ((bitsOf (i + 1) u ++ List.replicate m 0).map byteV)
  due : t = bitsOf (i + 1) (u + 1) ++ List.replicate m 0
  lt : u + 1 < 2 ^ (i + 1)
  only : Only [b, g] w wr

theorem AddRel.step {w wr : World} {b g cap d j u m : Nat} {t : List Nat} (h : AddRel w wr b g cap d (j + 1) u m t) (hu : u % 2 = 1) :
    AddRel w (wr.setCell ⟨g, j + 1, none⟩ (.int .u8 0)) b g cap d j (u / 2) (m + 1) t where
  len := by have := h.len; omega
  row := by
    have := h.row.set (j + 1) (byteV 0)
    rw [← List.map_set, bitsOf_put] at this
    exact this
  due := by
    rw [h.due]
    have e1 : (u + 1) / 2 = u / 2 + 1 := by omega
    have e2 : (u + 1) % 2 = 0 := by omega
    show bitsOf (j + 1) ((u + 1) / 2) ++ [(u + 1) % 2] ++ _ = _
    rw [e1, e2, List.append_assoc]
    rfl
  lt := by have := h.lt; rw [Nat.pow_succ] at this; omega
  only := h.only.setCell ⟨g, j + 1, none⟩ (by simp) _

theorem AddRel.fin {w wr : World} {b g cap d i u m : Nat} {t : List Nat} (h : AddRel w wr b g cap d i u m t) (hu : u % 2 = 0) :
    Sl (wr.setCell ⟨g, i, none⟩ (.int .u8 1)) 5 1 (.slice (some ⟨g, 0, none⟩) d cap) d (t.map byteV) := by
  have := h.row.set i (byteV 1)
  rw [← List.map_set, bitsOf_put] at this
  rw [h.due]
  have e1 : (u + 1) / 2 = u / 2 := by omega
  have e2 : (u + 1) % 2 = 1 := by omega
  show Sl _ _ _ _ _ ((bitsOf i ((u + 1) / 2) ++ [(u + 1) % 2] ++ _).map byteV)
  rw [e1, e2, List.append_assoc]
  exact this

set_option maxRecDepth 100000 in
set_option maxHeartbeats 3200000 in
theorem add_any {w : World} {b bw bt : Nat} {H : List Nat} {e : E} (h : Enc w b bw bt H e) (hd : e.d ≤ 1099511627776) (n : Nat) (hn : n ≤ 512) (hfit : e.c + n < 512 * 2 ^ e.d) :
    Calls Try.prog 91 #[.pointer (some ⟨b, 0, none⟩), .int .i64 n] w fun en w' => en = .returned (.tuple #[]) ∧
      Enc w' b bw bt H ⟨e.c + n, e.d, e.r⟩ ∧ Only (b :: H) w w' := by
  obtain ⟨v, hblk, hsl, hH⟩ := h.here
  obtain ⟨c, d, r⟩ := e
  simp only [] at *
  have hb := hblk.lt
  have hbk : ∀ j, b < w.heap.size + j := fun j => by omega
  have hne := hblk.ne_row hsl (by decide)
  have c2 : w.cell? ⟨b, 2, none⟩ = some v := (hblk.cell 2).trans rfl
  have c3 : w.cell? ⟨b, 3, none⟩ = some (.int .i64 ((c % 512 : Nat))) := (hblk.cell 3).trans rfl
  have f2 := hblk.free 2
  have f3 := hblk.free 3
  have hlow : c % 512 < 512 := by omega
  obtain ⟨low, hl⟩ : ∃ low, low = c % 512 := ⟨_, rfl⟩
  rw [← hl] at c3 hlow
  by_cases hc : low + n < 512
  · have HL := Lib.hid hl
    have HB := Lib.hid hblk
    have HS := Lib.hid hsl
    have HH := Lib.hid hH
    have HN := Lib.hid hne
    clear hblk hsl hH hne h hl
    go_enter Try.func91, Try.ntmps91
    go_wp2
    go_returns
    have e1 : (c + n) / 512 = c / 512 := by have := HL.out; omega
    have e2 : ((c + n) % 512 : Nat) = low + n := by have := HL.out; omega
    refine ⟨rfl, ⟨⟨v, ?_, ?_, HH.out⟩⟩, (Only.refl _ w).setCell ⟨b, 3, none⟩ (by simp) _⟩
    · simp only []
      rw [e2]
      exact HB.out.set 3 _
    · simp only []
      rw [e1]
      exact HS.out.set_other ⟨b, 3, none⟩ (fun x => HN.out b x rfl) _
  · have hpos : c / 512 + 1 < 2 ^ d := by
      have : 512 * (c / 512 + 1) ≤ c + n := by omega
      omega
    obtain ⟨d, rfl⟩ : ∃ k, d = k + 1 := by
      cases d with
      | zero => simp at hpos
      | succ k => exact ⟨k, rfl⟩
    obtain ⟨g, cap, rfl, _, hgl⟩ := World.ownsRow.form hsl (by omega)
    have hgb : g ≠ b := hne g rfl
    have HL := Lib.hid hl
    have HB := Lib.hid hblk
    have HS := Lib.hid hsl
    have HH := Lib.hid hH
    have hcap : d + 1 ≤ cap := by obtain ⟨_, _, q, _⟩ := hsl.row; exact q
    clear hblk hsl hH hne h hl
    go_enter Try.func91, Try.ntmps91
    have hx0 : bits BinOp.xor IntKind.u8 0 1 = 1 := by decide
    go_wp2_with fail
    go_loopw [4] (fun s4 wr => ∃ i u m : Nat, s4 = .int .i64 i ∧ AddRel w wr b g cap (d + 1) i u m (bitsOf (d + 1) (c / 512 + 1)) ∧
      Blk wr b #[.pointer (some ⟨bw, 0, none⟩), .pointer (some ⟨bt, 0, none⟩), .slice (some ⟨g, 0, none⟩) (d + 1) cap, .int .i64 ((low : Int) + n - 512), .int .i64 r, .bool false] 152) (fun s4 _ => (intOf s4).toNat)
    case atStart =>
      refine ⟨d, c / 512, 0, rfl, ⟨rfl, ?_, by simp, hpos, ((Only.refl _ w).setCell ⟨b, 3, none⟩ (by simp) _).setCell ⟨b, 3, none⟩ (by simp) _⟩, (HB.out.set 3 _).set 3 _⟩
      have := ((HS.out.set_other ⟨b, 3, none⟩ (by simpa [Value.ownBlock] using hgb) (.int .i64 ((low : Int) + n))).set_other ⟨b, 3, none⟩ (by simpa [Value.ownBlock] using hgb) (.int .i64 ((low : Int) + n - 512)))
      simpa using this
    case round =>
      obtain ⟨i, u, m, rfl, hR, hblk⟩ := hrel
      have hlen := hR.len
      have c2 : wr.cell? ⟨b, 2, none⟩ = some (.slice (some ⟨g, 0, none⟩) (d + 1) cap) := (hblk.cell 2).trans rfl
      have f2 := hblk.free 2
      have cg : wr.cell? ⟨g, i, none⟩ = some (.int .u8 ((u % 2 : Nat))) := by
        rw [hR.row.cells i (by omega), List.getElem?_map, bitsOf_at]; rfl
      have fg := hR.row.free i
      have HR := Lib.hid hR
      have HB2 := Lib.hid hblk
      clear hR hblk
      have hfin : u % 2 = 0 → Enc (wr.setCell ⟨g, i, none⟩ (.int .u8 1)) b bw bt H ⟨c + n, d + 1, r⟩ ∧ Only (b :: H) w (wr.setCell ⟨g, i, none⟩ (.int .u8 1)) := by
        intro hu
        have e1 : (c + n) / 512 = c / 512 + 1 := by have := HL.out; omega
        have e2 : (((c + n) % 512 : Nat) : Int) = (low : Int) + n - 512 := by have := HL.out; omega
        refine ⟨⟨⟨.slice (some ⟨g, 0, none⟩) (d + 1) cap, ?_, ?_, HH.out⟩⟩, ?_⟩
        · simp only []
          rw [e2]
          exact HB2.out.other ⟨g, i, none⟩ (fun e => hgb e.symm) _
        · simp only []
          rw [e1]
          exact HR.out.fin hu
        · rw [HH.out]
          exact HR.out.only.setCell ⟨g, i, none⟩ (by simp) _
      have HF := Lib.hid hfin
      clear hfin
      cases i with
      | zero =>
        have hu : u = 0 := by have := HR.out.lt; omega
        subst hu
        have HF2 := Lib.hid (HF.out rfl)
        go_wp2
        go_returns
        exact ⟨by simp, HF2.out⟩
      | succ j =>
        by_cases hu : u % 2 = 1
        · have H1 := Lib.hid hu
          rw [hu] at cg
          clear hu
          go_wp2
          go_roundw
          case rel =>
            refine ⟨j, u / 2, m + 1, by go_num, HR.out.step H1.out, HB2.out.other ⟨g, j + 1, none⟩ (fun e => hgb e.symm) _⟩
          case measure => simp [intOf]
        · have hu0 : u % 2 = 0 := by omega
          have HF2 := Lib.hid (HF.out hu0)
          rw [hu0] at cg
          clear hu hu0
          go_wp2
          go_returns
          exact ⟨by simp, HF2.out⟩

end Go.Proofs.Ytbpdhfenomebpaa
