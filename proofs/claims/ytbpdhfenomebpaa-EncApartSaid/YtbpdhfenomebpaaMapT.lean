/-
  A map from contexts to states that the call makes: what it holds.
-/
import Derived.Test.YtbpdhfenomebpaaDigits
import Derived.Maps.RangeWalk
namespace Go.Proofs.Ytbpdhfenomebpaa
open Go.RowKit Sp
open Go.Maps (Keyed)

/-- How a state reads. -/
def stElem : Value → Option (DataW Unit × List MemPlace)
  | .agg cs => match cs.toList with
    | [.int .u8 p, .int .u8 m] => some (.agg [.lit (.int .u8 p), .lit (.int .u8 m)], [])
    | _ => none
  | _ => none

def stD (s : St) : DataW Unit := .agg [.lit (.int .u8 s.p), .lit (.int .u8 s.m)]

theorem stElem_mk (p m : Int) : stElem (.agg #[.int .u8 p, .int .u8 m]) = some (.agg [.lit (.int .u8 p), .lit (.int .u8 m)], []) := rfl

theorem stElem_st (s : St) : stElem (stV s) = some (stD s, []) := rfl

theorem stElem_inv {v : Value} {z : DataW Unit × List MemPlace} (h : stElem v = some z) : ∃ p m : Int, v = .agg #[.int .u8 p, .int .u8 m] ∧ z = (.agg [.lit (.int .u8 p), .lit (.int .u8 m)], []) := by
  unfold stElem at h
  split at h
  · rename_i cs
    split at h
    · rename_i p m hc
      refine ⟨p, m, ?_, by simpa using h.symm⟩
      congr 1
      exact Array.ext' hc
    · cases h
  · cases h

theorem stElem_eq {v : Value} {s : St} {ps : List MemPlace} (h : stElem v = some (stD s, ps)) : v = stV s := by
  obtain ⟨p, m, rfl, hz⟩ := stElem_inv h
  simp only [stD, Prod.mk.injEq, DataW.agg.injEq, List.cons.injEq, DataW.lit.injEq, Lit.int.injEq, true_and, and_true] at hz
  obtain ⟨⟨h1, h2⟩, _⟩ := hz
  unfold stV
  rw [← h1, ← h2]

theorem intKey : Keyed Try.prog 3 := Maps.int_keyed Try.underlying3

def ctxK (i : Nat) : Lit := .int .i64 i

theorem keyOf_ctx {i : Nat} (h : i < 286) : keyOf Try.prog 3 (.int .i64 i) = some (ctxK i) := Maps.keyOf_int_mk Try.underlying3 (WalkArith.wf_i64 (by omega))

/-- The map holds the states of the contexts that came; the others' are as at the beginning. -/
structure MapT (w : World) (B n : Nat) (T0 T : Nat → St) (D : DataW Unit) : Prop where
  own : w.ownsMap Try.prog 3 stElem B n D
  keys : ∀ kl, Maps.has D kl = true → ∃ i, i < 286 ∧ kl = ctxK i
  at_ : ∀ i, i < 286 → Maps.has D (ctxK i) = true → ∀ z, D.atKey (ctxK i) z = stD (T i)
  rest : ∀ i, i < 286 → Maps.has D (ctxK i) = false → T i = T0 i

theorem MapT.start (w : World) (T : Nat → St) : MapT (w.alloc (.map #[] 0)) w.heap.size 0 T T (.map []) :=
  ⟨World.ownsMap_made _ _ _ _, fun kl h => by simp [Maps.has] at h, fun i _ h => by simp [Maps.has] at h, fun _ _ _ => rfl⟩

theorem ownsMap_only {w w' : World} {B n : Nat} {D : DataW Unit} {S : List Nat} (h : w.ownsMap Try.prog 3 stElem B n D) (ho : Only S w w') (hB : B ∉ S) : w'.ownsMap Try.prog 3 stElem B n D := by
  obtain ⟨es, clock, h1, h2⟩ := h
  exact ⟨es, clock, ho.heap h1 hB, h2⟩

theorem MapT.only {w w' : World} {B n : Nat} {T0 T : Nat → St} {D : DataW Unit} {S : List Nat} (h : MapT w B n T0 T D) (ho : Only S w w') (hB : B ∉ S) : MapT w' B n T0 T D :=
  ⟨ownsMap_only h.own ho hB, h.keys, h.at_, h.rest⟩

theorem zeroSt (w : World) : (zeroValue 63).run Try.prog w = .ok (.agg #[.int .u8 0, .int .u8 0]) w := by kernel_rfl

/-- A look-up. -/
theorem MapT.look {w : World} {B n : Nat} {T0 T : Nat → St} {D : DataW Unit} (h : MapT w B n T0 T D) (i : Nat) (hi : i < 286) :
    (Maps.has D (ctxK i) = true ∧ (Instr.lookup 69 (.map (some B)) (.int .i64 i) true).run Try.prog w = .ok (.tuple #[stV (T i), .bool true]) w) ∨
    (Maps.has D (ctxK i) = false ∧ T i = T0 i ∧ (Instr.lookup 69 (.map (some B)) (.int .i64 i) true).run Try.prog w = .ok (.tuple #[.agg #[.int .u8 0, .int .u8 0], .bool false]) w) := by
  obtain ⟨v, ps, hrun, hv⟩ := h.own.look_ok intKey Try.underlying69 (zeroSt w) (stElem_mk 0 0) (keyOf_ctx hi)
  cases hh : Maps.has D (ctxK i) with
  | true =>
    left
    rw [hh] at hrun
    rw [h.at_ i hi hh] at hv
    obtain rfl := stElem_eq hv
    exact ⟨rfl, hrun⟩
  | false =>
    right
    rw [hh] at hrun
    rw [Maps.atKey_of_not_has hh] at hv
    obtain ⟨p, m, rfl, hz⟩ := stElem_inv hv
    simp only [Prod.mk.injEq, DataW.agg.injEq, List.cons.injEq, DataW.lit.injEq, Lit.int.injEq, true_and, and_true] at hz
    obtain ⟨⟨h1, h2⟩, _⟩ := hz
    rw [← h1, ← h2] at hrun
    exact ⟨rfl, h.rest i hi hh, hrun⟩

/-- A store. -/
theorem MapT.put {w : World} {B n : Nat} {T0 T : Nat → St} {D : DataW Unit} (h : MapT w B n T0 T D) (hn : n ≤ 1000000) (i : Nat) (hi : i < 286) (s : St) :
    ∃ w', (Instr.mapUpdate 69 (.map (some B)) (.int .i64 i) (stV s)).run Try.prog w = .ok () w' ∧ MapT w' B (n + 1) T0 (updT T i s) (D.put (ctxK i) (stD s)) ∧ Only [B] w w' := by
  obtain ⟨w', hrun, h1, h2⟩ := h.own.update intKey Try.underlying69 (by unfold maxLen; omega) (keyOf_ctx hi) (stElem_st s)
  have hM := h.own.isMap
  have hk : WideAt.IsKeyLit (ctxK i) := by trivial
  refine ⟨w', hrun, ⟨h1, ?_, ?_, ?_⟩, (Only.refl [B] w).of_grown h2 (fun k hk => .inl (by simpa using hk.symm))⟩
  · intro kl hkl
    by_cases e : kl = ctxK i
    · exact ⟨i, hi, e⟩
    · rw [Maps.has_put_other e] at hkl
      exact h.keys kl hkl
  · intro j hj hkl z
    by_cases e : j = i
    · subst e
      rw [Maps.atKey_put_same hM hk]
      simp [updT]
    · have e2 : ctxK j ≠ ctxK i := by unfold ctxK; simp; omega
      rw [Maps.has_put_other e2] at hkl
      rw [Maps.atKey_put_other e2, h.at_ j hj hkl z]
      simp [updT, e]
  · intro j hj hkl
    by_cases e : j = i
    · subst e
      rw [Maps.has_put_same hM hk] at hkl
      cases hkl
    · have e2 : ctxK j ≠ ctxK i := by unfold ctxK; simp; omega
      rw [Maps.has_put_other e2] at hkl
      show (if j = i then s else T j) = T0 j
      rw [if_neg e]
      exact h.rest j hj hkl

theorem MapT.mono {w : World} {B n n' : Nat} {T0 T : Nat → St} {D : DataW Unit} (h : MapT w B n T0 T D) (hn : n ≤ n') : MapT w B n' T0 T D := ⟨h.own.mono hn, h.keys, h.at_, h.rest⟩

theorem next_only (p m b : Nat) (w : World) (hp : p ≤ 62) (hm : m ≤ 1) (hb : b ≤ 1) :
    Calls Try.prog 44 #[.agg #[.int .u8 p, .int .u8 m], .int .u8 b] w fun e w' => e = .returned (.tuple #[stV (nxt ⟨p, m⟩ b), .int .i64 0]) ∧ Only [] w w' := by
  refine (next_any p m b w hp hm hb).mono ?_
  rintro en w' ⟨rfl, c1, c2, c3, rfl⟩
  exact ⟨rfl, (((Only.refl [] w).alloc _).alloc _).alloc _⟩

section
variable {w : World} {ops : Array Oper} {rest : List Oper} {o : Oper} {a : Act} {Q : Exit → Act → World → Prop}

/-- The step of a range over the map. -/
theorem wpList_next_mapT (hg : o.guard = none) (it : Operand) (hop : o.op = Op.next it false) (B r n : Nat) (D : DataW Unit) (T : Nat → St) (left : Lit → Bool) (cnt : Nat)
    (hkeys : ∀ kl, Maps.has D kl = true → ∃ i, i < 286 ∧ kl = ctxK i) (hat : ∀ i, i < 286 → Maps.has D (ctxK i) = true → ∀ z, D.atKey (ctxK i) z = stD (T i))
    (hit : a.eval it = .pointer (some ⟨r, 0, none⟩)) (h : w.ranges Try.prog 3 stElem B r n D left cnt) (hleft : ∀ kl, left kl = true → Maps.has D kl = true)
    (hDone : cnt = 0 → wpList Try.prog ops Q rest (a.put o.dst (.tuple #[.bool false])) w)
    (hMore : ∀ (i : Nat) (left' : Lit → Bool) (w' : World) (cnt' : Nat), i < 286 → (∀ kl, left' kl = true → Maps.has D kl = true) → w'.ranges Try.prog 3 stElem B r n D left' cnt' → cnt' < cnt →
      Only [r] w w' → (Instr.entry (.pointer (some ⟨r, 0, none⟩))).run Try.prog w' = .ok (.tuple #[.int .i64 i, .agg #[.int .u8 (T i).p, .int .u8 (T i).m]]) w' →
      wpList Try.prog ops Q rest (a.put o.dst (.tuple #[.bool true, .int .i64 i, .agg #[.int .u8 (T i).p, .int .u8 (T i).m]])) w') :
    wpList Try.prog ops Q (o :: rest) a w := by
  refine wpList_next_ranges w hg it hop 3 intKey stElem (fun v : Value => v) (fun v : Value => v) (fun key kl _ => ⟨key, rfl⟩) (fun v y _ => ⟨v, rfl⟩) B r n D left cnt hit h (fun h0 _ => hDone h0) ?_
  intro x c kl y w' cnt' hkey hlk hv hat' hrg hlt hgr _ hen
  obtain ⟨i, hi, rfl⟩ := hkeys kl (hleft kl hlk)
  obtain ⟨x', rfl, hx, _⟩ := Maps.keyOf_int_inv Try.underlying3 hkey
  have hx2 : x' = (i : Int) := by unfold ctxK at hx; simpa using hx.symm
  subst hx2
  obtain ⟨y1, y2⟩ := y
  have h1 := hat' (.agg [])
  rw [hat i hi (hleft _ hlk)] at h1
  simp only [] at h1
  rw [← h1] at hv
  obtain rfl := stElem_eq hv
  refine hMore i _ w' cnt' hi (fun kl hkl => ?_) hrg hlt ((Only.refl [r] w).of_grown hgr (fun k hk => .inl (by simpa using hk.symm))) hen
  simp only [Bool.and_eq_true] at hkl
  exact hleft kl hkl.1

end

end Go.Proofs.Ytbpdhfenomebpaa
