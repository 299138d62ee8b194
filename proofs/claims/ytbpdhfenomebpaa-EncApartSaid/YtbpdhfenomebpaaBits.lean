/-
  Words on bits in the walk's own forms; lists of bits; bytes and their bits. No function of the program is named.
-/
import Derived.Test.YtbpdhfenomebpaaWorld
import Derived.Test.YtbpdhfenomebpaaInt
import Derived.Laws.CopyOwn
namespace Go.Proofs.Ytbpdhfenomebpaa
open Go.RowKit Sp

theorem div_pow_cast (v j : Nat) : ((v : Int) / 2 ^ j) = ((v / 2 ^ j : Nat) : Int) := by
  have h : ((2 ^ j : Nat) : Int) = (2 : Int) ^ j := Int.natCast_pow 2 j
  rw [← h]; rfl

theorem two63 : (2 : Int) ^ 63 = 9223372036854775808 := by decide

theorem push_bit (p v j : Nat) (hp : p < 128) (hv : v ≤ 18446744073709551615) :
    bits BinOp.or IntKind.u8 ((p : Int) * 2) (bits BinOp.and IntKind.u64 ((v : Int) / 2 ^ j) 1 % 256) = ((2 * p + v / 2 ^ j % 2 : Nat) : Int) := by
  have hle : v / 2 ^ j ≤ v := Nat.div_le_self _ _
  rw [div_pow_cast]
  generalize v / 2 ^ j = x at *
  rw [and_one_u64 _ (by omega) (by omega)]
  rw [bits_join .u8 8 (by decide) wraps_u8 1 _ _ (by omega) (by omega) (by omega) (by omega) (by omega) (by omega)]
  omega

theorem and_mask (i : Nat) (hi : i ≤ 63) (x : Int) (h0 : 0 ≤ x) (h1 : x ≤ 9223372036854775807) : bits BinOp.and IntKind.i64 x (2 ^ i - 1) = x % 2 ^ i :=
  bits_mask .i64 63 (by decide) (fun n h0 h1 => by rw [two63] at h1; rw [IntKind.wrap_i64]; omega) i hi x h0 (by rw [two63]; omega)

theorem and_511 (x : Int) (h0 : 0 ≤ x) (h1 : x ≤ 9223372036854775807) : bits BinOp.and IntKind.i64 x 511 = x % 512 := and_mask 9 (by decide) x h0 h1
theorem and_3 (x : Int) (h0 : 0 ≤ x) (h1 : x ≤ 9223372036854775807) : bits BinOp.and IntKind.i64 x 3 = x % 4 := and_mask 2 (by decide) x h0 h1
theorem or_1 (x : Nat) (h1 : x < 512) : bits BinOp.or IntKind.i64 (x : Int) 1 = ((odd x : Nat) : Int) := by
  have key : ∀ n : Fin 512, bits BinOp.or IntKind.i64 ((n.val : Nat) : Int) 1 = ((odd n.val : Nat) : Int) := by decide +kernel
  exact key ⟨x, h1⟩
theorem xor_1 (x : Nat) (h1 : x ≤ 1) : bits BinOp.xor IntKind.u8 (x : Int) 1 = ((1 - x : Nat) : Int) := by
  have key : ∀ n : Fin 2, bits BinOp.xor IntKind.u8 ((n.val : Nat) : Int) 1 = ((1 - n.val : Nat) : Int) := by decide +kernel
  exact key ⟨x, by omega⟩

theorem bitsOf_push (c p x : Nat) (hx : x ≤ 1) : bitsOf (c + 1) (2 * p + x) = bitsOf c p ++ [x] := by
  simp only [bitsOf]
  rw [show (2 * p + x) / 2 = p by omega, show (2 * p + x) % 2 = x by omega]

theorem bitsOf_next (m v j : Nat) : bitsOf (m + 1) (v / 2 ^ j) = bitsOf m (v / 2 ^ (j + 1)) ++ [v / 2 ^ j % 2] := by
  simp only [bitsOf]
  rw [Nat.div_div_eq_div_mul, ← Nat.pow_succ]

/-- The bits of bytes. -/
def bits8 (B : List Nat) : List Nat := B.flatMap (bitsOf 8)
theorem bits8_nil : bits8 [] = [] := rfl
theorem bits8_append (A B : List Nat) : bits8 (A ++ B) = bits8 A ++ bits8 B := List.flatMap_append
theorem bits8_one (x : Nat) : bits8 [x] = bitsOf 8 x := by simp [bits8]
theorem bits8_length (B : List Nat) : (bits8 B).length = 8 * B.length := by
  induction B with
  | nil => rfl
  | cons x B ih =>
    show (bitsOf 8 x ++ bits8 B).length = _
    rw [List.length_append, ih, bitsOf_length, List.length_cons]
    omega

def byteV (x : Nat) : Value := .int .u8 x


theorem zeroCells_one (z : Value) (n : Nat) : Builtin.zeroCells #[z] n = (List.replicate n z).toArray := by
  unfold Builtin.zeroCells
  apply Array.ext_getElem?
  intro k
  by_cases hk : k < n
  · simp [hk, Nat.mod_one]
  · simp [hk]

section
variable {P : Program} (w : World)
/-- append(xs, make([]T, m)...), T of one cell. -/
theorem run_append_zeros (t q ty e : TypeId) (i : TypeInfo) (z : Value) (ht : P.underlying t = some (.slice e)) (hq : P.underlying q = some (.int .i64)) (hi : P.info? e = some i) (hz : i.zero = some z)
    (hsize : i.size = 1) (hby : i.bytes = 1) (hzs : z.cells = #[z]) (hz1 : z.oneCell' = true)
    (v : Value) (n : Nat) (xs : List Value) (hown : w.ownsRow 0 e 1 v n xs) (m : Nat) (hm : 0 < m) (hb : n + m ≤ 140737488355328) :
    ∃ g cap w', (Builtin.append_ #[t, q] ty #[v, .int .i64 m]).run P w = .ok (.slice (some ⟨g, 0, none⟩) (n + m) cap) w' ∧
      w'.ownsRow 0 e 1 (.slice (some ⟨g, 0, none⟩) (n + m) cap) (n + m) (xs ++ List.replicate m z) ∧ w.grownBy w' v.ownBlock ∧ (v.ownBlock = some g ∨ g = w.heap.size) ∧ g < w'.heap.size := by
  have hw : IntKind.i64.wrap (m : Int) = m := by rw [IntKind.wrap_i64]; omega
  have hn0 : ¬ ((m : Int) < 0) := by omega
  have h48 : ¬ (281474976710656 < (m : Int)) := by omega
  have hl : xs.length = n := by have := hown.1; omega
  have h63' : ¬ (9223372036854775807 < ((n : Int) + (m : Int))) := by omega
  have hm0 : m ≠ 0 := by omega
  rcases hown.2 with ⟨rfl, rfl⟩ | ⟨g, cap, cur, rfl, hbg, hg, hnc, hcm, hcs, htake⟩
  · obtain rfl : xs = [] := List.eq_nil_of_length_eq_zero hl
    have h48' : ¬ (281474976710656 < Builtin.nextslicecap m 0) := by rw [nextslicecap_zero hm]; omega
    have h63'' : ¬ (9223372036854775807 < (m : Int)) := by omega
    refine ⟨w.heap.size, grownCap w m 0 e, w.drew.alloc (.cells ((List.replicate m z).toArray ++ (List.replicate (grownCap w m 0 e - m) z).toArray) e), ?_, ?_, ⟨rfl, rfl, rfl, by simp, fun k hk _ => Below.heap_alloc w.drew _ k hk⟩, .inr rfl, by simp⟩
    · simp [Builtin.append_, run_underlying ht, run_underlying hq, sizeOf, typeInfo, zeroValue, hi, hz, hsize, hby, asInt, asIntOf, hw, hn0, h48, h63'', hm0, h48', Question.forced, Builtin.firstCells, newRow, grownCap, hzs, zeroCells_one]
    · have hge := grownCap_ge w m 0 e
      have hcm := grownCap_le_maxLen w m 0 e (by unfold maxLen; omega)
      refine ⟨by simp, .inr ⟨w.heap.size, _, _, by simp, Nat.zero_le _, heap_alloc_new w.drew _, by simpa using hge, hcm, ?_, ?_⟩⟩
      · simp; omega
      · simp
  · by_cases hroom : n + m ≤ cap
    · have hst := run_storeCells_at P g n e (List.replicate m z) 0 cur w hg (by simp; omega) (fun u hu => by rw [List.eq_of_mem_replicate hu]; exact hz1)
      simp only [Nat.add_zero] at hst
      obtain ⟨row, hrow⟩ : ∃ row, row = (cur.toList.take n ++ List.replicate m z ++ cur.toList.drop (n + (List.replicate m z).length)).toArray := ⟨_, rfl⟩
      rw [← hrow] at hst
      have hsz : row.size = cap * 1 := by rw [hrow]; simp; omega
      have htk : row.toList.take ((n + m) * 1) = xs ++ List.replicate m z := by
        simp only [Nat.mul_one] at htake
        rw [hrow]
        simp only [htake, Nat.mul_one]
        rw [List.take_append_of_le_length (by simp [hl])]
        exact List.take_of_length_le (by simp [hl])
      refine ⟨g, cap, w.setRow g row, ?_, ⟨by simp [hl], .inr ⟨g, cap, row, rfl, hbg, setRow_heap w g cur _ e _ hg, hroom, hcm, hsz, htk⟩⟩, ⟨rfl, rfl, rfl, by simp, fun k _ hk => setRow_other w g k _ (fun e => hk (by simp [Value.ownBlock, e]))⟩, .inl rfl, ?_⟩
      · simp [Builtin.append_, run_underlying ht, run_underlying hq, sizeOf, typeInfo, zeroValue, hi, hz, hsize, hby, asInt, asIntOf, hw, hn0, h48, hroom, hm0, hzs, zeroCells_one, Addr.add_lit, hst]
      · have := lt_of_block hg
        simpa using this
    · have holds : ∀ j u, xs[j]? = some u → w.drew.cell? ((⟨g, 0, none⟩ : Addr).add j) = some u := World.ownsRow.cells hown (g := g) rfl
      have hfo := run_firstCells_some (P := P) w.drew 1 n ⟨g, 0, none⟩ n cap xs (by omega) holds
      have h48' : ¬ (281474976710656 < Builtin.nextslicecap (n + m) cap) := by
        have := growslice_fits (need := n + m) (old := cap) (bytes := 1) (by omega) (by omega)
        omega
      refine ⟨w.heap.size, grownCap w (n + m) cap e, w.drew.alloc (.cells (xs.toArray ++ (List.replicate m z).toArray ++ (List.replicate (grownCap w (n + m) cap e - (n + m)) z).toArray) e), ?_, ?_, ⟨rfl, rfl, rfl, by simp, fun k hk _ => Below.heap_alloc w.drew _ k hk⟩, .inr rfl, by simp⟩
      · simp [Builtin.append_, run_underlying ht, run_underlying hq, sizeOf, typeInfo, zeroValue, hi, hz, hsize, hby, asInt, asIntOf, hw, hn0, h48, hroom, hm0, h63', h48', Question.forced, hfo, newRow, grownCap, hzs, zeroCells_one]
      · have hge := grownCap_ge w (n + m) cap e
        have hcm2 := grownCap_le_maxLen w (n + m) cap e (by unfold maxLen; omega)
        refine ⟨by simp [hl], .inr ⟨w.heap.size, _, _, rfl, Nat.zero_le _, heap_alloc_new w.drew _, hge, hcm2, ?_, ?_⟩⟩
        · simp [hl]; omega
        · simp only [Array.toList_append, Nat.mul_one]
          rw [List.take_append_of_le_length (by simp [hl])]
          exact List.take_of_length_le (by simp [hl])

theorem wpList_append_zeros {ops : Array Oper} {rest : List Oper} {o : Oper} {a : Act} {Q : Exit → Act → World → Prop} (hgd : o.guard = none) (s x : Operand) (t q : TypeId)
    (ho : o.op = .call { callee := .builtin .append, args := #[s, x], argTypes := #[t, q] })
    (e : TypeId) (i : TypeInfo) (z : Value) (ht : P.underlying t = some (.slice e)) (hq : P.underlying q = some (.int .i64)) (hi : P.info? e = some i) (hz : i.zero = some z)
    (hsize : i.size = 1) (hby : i.bytes = 1) (hzs : z.cells = #[z]) (hz1 : z.oneCell' = true)
    (v : Value) (n : Nat) (xs : List Value) (hs : a.eval s = v) (hown : w.ownsRow 0 e 1 v n xs) (m : Nat) (hx : a.eval x = .int .i64 m) (hm : 0 < m) (hb : n + m ≤ 140737488355328)
    (h : ∀ g cap w', w'.ownsRow 0 e 1 (.slice (some ⟨g, 0, none⟩) (n + m) cap) (n + m) (xs ++ List.replicate m z) → w.grownBy w' v.ownBlock → (v.ownBlock = some g ∨ g = w.heap.size) → g < w'.heap.size →
      wpList P ops Q rest (a.put o.dst (.slice (some ⟨g, 0, none⟩) (n + m) cap)) w') : wpList P ops Q (o :: rest) a w := by
  refine wpList_plain hgd fun K hK => ?_
  obtain ⟨g, cap, w', hr, h2, h3, h4, h5⟩ := run_append_zeros (P := P) w t q o.type e i z ht hq hi hz hsize hby hzs hz1 v n xs hown m hm hb
  unfold Oper.wp execOp
  simp only [ho, resolve, invoke, builtin, Sem.run_bind, Sem.run_pure, Result.andThen_ok, List.map_toArray, List.map_cons, List.map_nil, hs, hx, hr]
  exact hK _ _ (h g cap w' h2 h3 h4 h5)
end

/-- copy into a row that is known whole, as a step of a region that draws its order. -/
theorem step_copy_row {P : Program} {ops : Array Oper} {o : Oper} {a : Act} {w : World} {K : Act → World → Prop} {Q : Exit → Act → World → Prop} {E : Prop} (hgd : o.guard = none) (d s : Operand) (dT sT : TypeId)
    (ho : o.op = .call { callee := .builtin .copy, args := #[d, s], argTypes := #[dT, sT] }) (elem : TypeId) (hu : P.underlying dT = some (.slice elem)) (hsz : (P.info? elem).map (·.size) = some 1)
    (g off dLen dCap : Nat) (ad : Addr) (sLen sCap : Nat) (hd : a.eval d = .slice (some ⟨g, off, none⟩) dLen dCap) (hs : a.eval s = .slice (some ad) sLen sCap)
    (cur : Array Value) (t : TypeId) (hg : w.heap[g]? = some (.cells cur t (0, 0))) (cs : List Value) (hn : cs.length = Nat.min sLen dLen)
    (hsrc : ∀ j v, cs[j]? = some v → w.cell? (ad.add j) = some v) (hfit : off + cs.length ≤ cur.size) (h1 : ∀ v ∈ cs, v.oneCell' = true)
    (h : K (a.put o.dst (goInt cs.length)) (w.setRow g (cur.toList.take off ++ cs ++ cur.toList.drop (off + cs.length)).toArray)) :
    if Region.wanted o (yielded ops a.tmps) = true then Oper.wp P o a w K Q else E := by
  have hw : Region.wanted o (yielded ops a.tmps) = true := by simp [Region.wanted, hgd]
  rw [if_pos hw]
  have hrun := run_copy_row (P := P) w dT sT o.type elem g off dLen dCap ad sLen sCap cur t cs hu hsz hg hn hsrc hfit h1
  unfold Oper.wp execOp
  simp only [ho, resolve, invoke, builtin, Sem.run_bind, Sem.run_pure, Result.andThen_ok, List.map_toArray, List.map_cons, List.map_nil, hd, hs, hrun]
  exact h

end Go.Proofs.Ytbpdhfenomebpaa
