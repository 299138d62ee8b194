/-
  Layer 25's law EncMatches: the program's side and the reference's side, each as one state of a plain model; what each call does to it.
-/
import Derived.Test.YtbpdhfenomebpaaActs
namespace Sp

/-- An encoder with its table: none (and the table, if there is one); in use; ended. -/
inductive Ob where
  | no (T : Option (Nat → St))
  | on (s : TE)
  | over (T : Nat → St)

def Ob.tab : Ob → Option (Nat → St)
  | .no T => T
  | .on s => some s.T
  | .over T => some T

def Ob.d : Ob → Nat
  | .on s => s.e.d
  | _ => 0


def Ob.bins : Ob → List Bn → Int × Ob
  | .no T, _ => (1, .no T)
  | .on s, l => if ∀ x ∈ l, x.ok then (0, .on (s.bins l)) else (3, .on s)
  | .over T, _ => (8, .over T)

def Ob.put (o : Ob) (x : Bn) : Int × Ob := o.bins [x]

def Ob.stop0 : Ob → Int × Ob
  | .no T => (1, .no T)
  | .on s => (0, .on s.stop)
  | .over T => (8, .over T)

def Ob.stop1 : Ob → Int × Ob
  | .no T => (1, .no T)
  | .on s => (0, .over s.T)
  | .over T => (8, .over T)

/-- What Stop with true writes. -/
def Ob.out : Ob → List Nat
  | .on s => s.e.out
  | _ => []

/-- A new encoder over the table. -/
def Ob.new (o : Ob) (n : Nat) : Int × Ob :=
  match o.tab with
  | none => (1, .no none)
  | some T => if n % 8 = 0 then (0, .on ⟨T, E.ini⟩) else (8, .no (some T))

def Ob.ok : Ob → Prop
  | .on s => s.ok
  | _ => True

theorem Ob.bins_d {o : Ob} (h : o.ok) (l : List Bn) : (o.bins l).2.d ≤ o.d + 9 * l.length := by
  cases o with
  | no T => exact Nat.zero_le _
  | over T => exact Nat.zero_le _
  | on s =>
    simp only [Ob.bins]
    split
    · rename_i hl
      exact TE.bins_d h hl
    · exact Nat.le_add_right _ _

theorem Ob.put_d {o : Ob} (h : o.ok) (x : Bn) : (o.put x).2.d ≤ o.d + 9 := Ob.bins_d h [x]

theorem Ob.stop0_d {o : Ob} (h : o.ok) : o.stop0.2.d ≤ o.d + 9 := by
  cases o with
  | no T => exact Nat.zero_le _
  | over T => exact Nat.zero_le _
  | on s => exact TE.stop_d h

theorem Ob.stop1_d (o : Ob) : o.stop1.2.d = 0 := by cases o <;> rfl

theorem Ob.new_d (o : Ob) (n : Nat) : (o.new n).2.d = 0 := by
  unfold Ob.new
  split
  · rfl
  · split <;> rfl

theorem Ob.out_len (o : Ob) : o.out.length ≤ o.d + 9 := by
  cases o with
  | no T => exact Nat.zero_le _
  | over T => exact Nat.zero_le _
  | on s => simp only [Ob.out, Ob.d, E.out]; rw [bitsOf_length]; omega

end Sp
namespace Go.Proofs.Ytbpdhfenomebpaa
open Go.RowKit Sp

theorem rput_ended {w : World} {b : Nat} (c5 : w.cell? ⟨b, 4, none⟩ = some (.bool true)) (c : Int) (bit : Nat) :
    Calls Try.prog 35 #[.pointer (some ⟨b, 0, none⟩), .agg #[.int .i64 c, .int .u8 bit]] w fun en w' => en = .returned (.int .i64 8) ∧ Only [] w w' := by
  have hb : b < w.heap.size := World.block_lt_of_cell? w _ c5
  refine rput_of ((rbins_ended (b := b) ?_).mono ?_)
  · rw [World.cell?_alloc_lt _ _ _ (by simp; omega), World.cell?_alloc_lt _ _ _ hb]
    exact c5
  · rintro en w' ⟨rfl, r⟩
    exact ⟨rfl, (((Only.refl [] w).alloc _).alloc _).trans r (by simp)⟩

theorem rstop_ended {w : World} {b : Nat} {x : Bool} (c5 : w.cell? ⟨b, 4, none⟩ = some (.bool true)) :
    Calls Try.prog 34 #[.pointer (some ⟨b, 0, none⟩), .bool x] w fun en w' => en = .returned (.int .i64 8) ∧ Only [] w w' := by
  go_enter Try.func34, Try.ntmps34
  go_wp2_with fail
  go_returns
  exact ⟨rfl, Only.refl _ _⟩

abbrev pt (b : Nat) : Value := .pointer (some ⟨b, 0, none⟩)

/-- The program's side: the writer with the bits L, table t, encoder x, in the blocks P. -/
inductive PS (n : Nat) (w : World) (bw : Nat) (L : List Nat) : Value → Value → Ob → List Nat → Prop
  | no0 {F : List Nat} : Wr w bw F L → (∀ x ∈ bw :: F, n ≤ x) → PS n w bw L (.pointer none) (.pointer none) (.no none) (bw :: F)
  | no1 {F : List Nat} {bt : Nat} {T : Nat → St} : Wr w bw F L → Tab w bt T → bt ∉ bw :: F → (∀ x ∈ bt :: bw :: F, n ≤ x) → PS n w bw L (pt bt) (.pointer none) (.no (some T)) (bt :: bw :: F)
  | on {F H : List Nat} {bt b : Nat} {s : TE} : Cd n w b bw bt H F L s → PS n w bw L (pt bt) (pt b) (.on s) (bt :: bw :: b :: (H ++ F))
  | over {F : List Nat} {bt b : Nat} {T : Nat → St} : Wr w bw F L → Tab w bt T → bt ∉ bw :: F → w.cell? ⟨b, 5, none⟩ = some (.bool true) → b ∉ bt :: bw :: F → (∀ x ∈ bt :: bw :: b :: F, n ≤ x) → PS n w bw L (pt bt) (pt b) (.over T) (bt :: bw :: b :: F)

/-- The cell of the reference's string. -/
def Sc (w : World) (bs : Nat) (L : List Nat) : Prop := w.cell? ⟨bs, 0, none⟩ = some (.string (txt L)) ∧ w.frozen? ⟨bs, 0, none⟩ = false

/-- The reference's side: the string L, table u, encoder y, in the blocks R. -/
inductive RS (w : World) (bs : Nat) (L : List Nat) : Value → Value → Ob → List Nat → Prop
  | no0 : Sc w bs L → RS w bs L (.pointer none) (.pointer none) (.no none) [bs]
  | no1 {ru gt : Nat} {T : Nat → St} : Sc w bs L → RTab w ru gt T → ru ≠ gt → bs ∉ [ru, gt] → RS w bs L (pt ru) (.pointer none) (.no (some T)) [bs, ru, gt]
  | on {rb ru gt g : Nat} {s : TE} : Sc w bs L → RCd w rb bs ru gt g s → bs ∉ [rb, ru, gt, g] → RS w bs L (pt ru) (pt rb) (.on s) [bs, rb, ru, gt, g]
  | over {rb ru gt : Nat} {T : Nat → St} : Sc w bs L → RTab w ru gt T → ru ≠ gt → w.cell? ⟨rb, 4, none⟩ = some (.bool true) → bs ∉ [rb, ru, gt] → rb ∉ [ru, gt] → RS w bs L (pt ru) (pt rb) (.over T) [bs, rb, ru, gt]

theorem Sc.lt {w : World} {bs : Nat} {L : List Nat} (h : Sc w bs L) : bs < w.heap.size := World.block_lt_of_cell? w _ h.1
theorem Sc.only {w w' : World} {bs : Nat} {L S : List Nat} (h : Sc w bs L) (ho : Only S w w') (hS : bs ∉ S) : Sc w' bs L := by
  have hb := ho.block bs h.lt hS
  exact ⟨by rw [World.cell?_of_block hb]; exact h.1, by rw [World.frozen?_of_block hb]; exact h.2⟩

theorem PS.lt {n : Nat} {w : World} {bw : Nat} {L P : List Nat} {t x : Value} {o : Ob} (h : PS n w bw L t x o P) : ∀ z ∈ P, z < w.heap.size := by
  intro z hz
  cases h with
  | no0 h1 h2 =>
    rcases List.mem_cons.1 hz with q | q
    · rw [q]; exact h1.lt
    · exact h1.fresh z q
  | no1 h1 h2 h3 h4 =>
    simp only [List.mem_cons] at hz
    rcases hz with q | q | q
    · rw [q]; exact h2.lt
    · rw [q]; exact h1.lt
    · exact h1.fresh z q
  | on h1 =>
    simp only [List.mem_cons, List.mem_append] at hz
    rcases hz with q | q | q | q | q
    · rw [q]; exact h1.tab.lt
    · rw [q]; exact h1.wr.lt
    · rw [q]; exact h1.enc.lt
    · exact h1.enc.fresh z q
    · exact h1.wr.fresh z q
  | over h1 h2 h3 h4 h5 h6 =>
    simp only [List.mem_cons] at hz
    rcases hz with q | q | q | q
    · rw [q]; exact h2.lt
    · rw [q]; exact h1.lt
    · rw [q]; exact World.block_lt_of_cell? w _ h4
    · exact h1.fresh z q

theorem PS.ge {n : Nat} {w : World} {bw : Nat} {L P : List Nat} {t x : Value} {o : Ob} (h : PS n w bw L t x o P) : ∀ z ∈ P, n ≤ z := by
  cases h with
  | no0 h1 h2 => exact h2
  | no1 h1 h2 h3 h4 => exact h4
  | on h1 => exact h1.n
  | over h1 h2 h3 h4 h5 h6 => exact h6

theorem PS.wr {n : Nat} {w : World} {bw : Nat} {L P : List Nat} {t x : Value} {o : Ob} (h : PS n w bw L t x o P) : ∃ F, Wr w bw F L := by
  cases h with
  | no0 h1 h2 => exact ⟨_, h1⟩
  | no1 h1 h2 h3 h4 => exact ⟨_, h1⟩
  | on h1 => exact ⟨_, h1.wr⟩
  | over h1 h2 h3 h4 h5 h6 => exact ⟨_, h1⟩

theorem PS.ok {n : Nat} {w : World} {bw : Nat} {L P : List Nat} {t x : Value} {o : Ob} (h : PS n w bw L t x o P) : o.ok := by
  cases h with
  | no0 h1 h2 => trivial
  | no1 h1 h2 h3 h4 => trivial
  | on h1 => exact h1.ok
  | over h1 h2 h3 h4 h5 h6 => trivial

theorem PS.only {n : Nat} {w w' : World} {bw : Nat} {L P S : List Nat} {t x : Value} {o : Ob} (h : PS n w bw L t x o P) (ho : Only S w w') (hS : ∀ z ∈ P, z ∉ S) : PS n w' bw L t x o P := by
  cases h with
  | no0 h1 h2 => exact .no0 (h1.only ho (hS _ (by simp)) (fun z hz => hS z (by simp [hz]))) h2
  | no1 h1 h2 h3 h4 => exact .no1 (h1.only ho (hS _ (by simp)) (fun z hz => hS z (by simp [hz]))) (h2.only ho (hS _ (by simp))) h3 h4
  | on h1 => exact .on (h1.only ho hS)
  | over h1 h2 h3 h4 h5 h6 =>
    refine .over (h1.only ho (hS _ (by simp)) (fun z hz => hS z (by simp [hz]))) (h2.only ho (hS _ (by simp))) h3 ?_ h5 h6
    rw [World.cell?_of_block (ho.block _ (World.block_lt_of_cell? w _ h4) (hS _ (by simp)))]
    exact h4

theorem RS.lt {w : World} {bs : Nat} {L R : List Nat} {u y : Value} {o : Ob} (h : RS w bs L u y o R) : ∀ z ∈ R, z < w.heap.size := by
  intro z hz
  cases h with
  | no0 h1 => simp only [List.mem_cons, List.not_mem_nil, or_false] at hz; rw [hz]; exact h1.lt
  | no1 h1 h2 h3 h4 =>
    have := h1.lt
    have := h2.lt
    simp only [List.mem_cons, List.not_mem_nil, or_false] at hz
    omega
  | on h1 h2 h3 =>
    have := h1.lt
    have := h2.tab.lt
    have := h2.enc.lt
    have := h2.enc.glt
    simp only [List.mem_cons, List.not_mem_nil, or_false] at hz
    omega
  | over h1 h2 h3 h4 h5 h6 =>
    have := h1.lt
    have := h2.lt
    have := World.block_lt_of_cell? w _ h4
    simp only [List.mem_cons, List.not_mem_nil, or_false] at hz
    simp only [] at this
    omega

theorem RS.sc {w : World} {bs : Nat} {L R : List Nat} {u y : Value} {o : Ob} (h : RS w bs L u y o R) : Sc w bs L := by
  cases h with
  | no0 h1 => exact h1
  | no1 h1 h2 h3 h4 => exact h1
  | on h1 h2 h3 => exact h1
  | over h1 h2 h3 h4 h5 h6 => exact h1

theorem RS.only {w w' : World} {bs : Nat} {L R S : List Nat} {u y : Value} {o : Ob} (h : RS w bs L u y o R) (ho : Only S w w') (hS : ∀ z ∈ R, z ∉ S) : RS w' bs L u y o R := by
  cases h with
  | no0 h1 => exact .no0 (h1.only ho (hS _ (by simp)))
  | no1 h1 h2 h3 h4 => exact .no1 (h1.only ho (hS _ (by simp))) (h2.only ho (hS _ (by simp)) (hS _ (by simp))) h3 h4
  | on h1 h2 h3 => exact .on (h1.only ho (hS _ (by simp))) (h2.only ho (fun z hz => hS z (List.mem_cons_of_mem _ hz))) h3
  | over h1 h2 h3 h4 h5 h6 =>
    refine .over (h1.only ho (hS _ (by simp))) (h2.only ho (hS _ (by simp)) (hS _ (by simp))) h3 ?_ h5 h6
    rw [World.cell?_of_block (ho.block _ (World.block_lt_of_cell? w _ h4) (hS _ (by simp)))]
    exact h4

/-- Both sides, apart from each other, behind all that w0 has. -/
structure MS (w0 w : World) (t u x y : Value) (bw bs : Nat) (LP LR : List Nat) (p r : Ob) : Prop where
  only : Only [] w0 w
  here : ∃ P R, PS w0.heap.size w bw LP t x p P ∧ RS w bs LR u y r R ∧ (∀ z ∈ P, z ∉ R) ∧ (∀ z ∈ R, w0.heap.size ≤ z)

section
variable {w0 w : World} {t u x y : Value} {bw bs : Nat} {LP LR : List Nat} {p r : Ob}

theorem MS.next {w' : World} (h : MS w0 w t u x y bw bs LP LR p r) (ho : Only [] w w') : MS w0 w' t u x y bw bs LP LR p r := by
  obtain ⟨h1, P, R, h2, h3, h4, h5⟩ := h
  exact ⟨h1.trans ho (by simp), P, R, h2.only ho (by simp), h3.only ho (by simp), h4, h5⟩

theorem MS.ok (h : MS w0 w t u x y bw bs LP LR p r) : p.ok := by obtain ⟨_, P, R, h2, _⟩ := h; exact h2.ok

theorem MS.wr (h : MS w0 w t u x y bw bs LP LR p r) : ∃ F, Wr w bw F LP := by obtain ⟨_, P, R, h2, _⟩ := h; exact h2.wr

theorem MS.sc (h : MS w0 w t u x y bw bs LP LR p r) : Sc w bs LR := by obtain ⟨_, P, R, _, h2, _⟩ := h; exact h2.sc

end

/-- The program's side goes on. -/
theorem MS.mkP {w0 w w' : World} {t u x x' y : Value} {bw bs : Nat} {LP LP' LR P P' R : List Nat} {p p' r : Ob} (h1 : Only [] w0 w) (h2 : PS w0.heap.size w bw LP t x p P) (h3 : RS w bs LR u y r R) (h4 : ∀ z ∈ P, z ∉ R) (h5 : ∀ z ∈ R, w0.heap.size ≤ z)
    (q1 : PS w0.heap.size w' bw LP' t x' p' P') (q2 : ∀ z ∈ P', z ∈ P ∨ w.heap.size ≤ z) (q3 : Only P w w') : MS w0 w' t u x' y bw bs LP' LR p' r := by
  refine ⟨h1.past q3 h2.ge, P', R, q1, h3.only q3 (fun z hz hm => h4 z hm hz), fun z hz hr => ?_, h5⟩
  rcases q2 z hz with q | q
  · exact h4 z q hr
  · have := h3.lt z hr; omega

/-- The reference's side goes on. -/
theorem MS.mkR {w0 w w' : World} {t u x y y' : Value} {bw bs : Nat} {LP LR LR' P R R' : List Nat} {p r r' : Ob} (h1 : Only [] w0 w) (h2 : PS w0.heap.size w bw LP t x p P) (_h3 : RS w bs LR u y r R) (h4 : ∀ z ∈ P, z ∉ R) (h5 : ∀ z ∈ R, w0.heap.size ≤ z)
    (q1 : RS w' bs LR' u y' r' R') (q2 : ∀ z ∈ R', z ∈ R ∨ w.heap.size ≤ z) (q3 : Only R w w') : MS w0 w' t u x y' bw bs LP LR' p r' := by
  have hs := h1.size
  refine ⟨h1.past q3 h5, P, R', h2.only q3 h4, q1, fun z hz hr => ?_, fun z hz => ?_⟩
  · rcases q2 z hr with q | q
    · exact h4 z hz q
    · have := h2.lt z hz; omega
  · rcases q2 z hz with q | q
    · exact h5 z q
    · omega

/-- A step of the program's side. -/
def StepP (n : Nat) (w w' : World) (bw : Nat) (L : List Nat) (t x : Value) (o : Ob) (P : List Nat) : Prop := ∃ P', PS n w' bw L t x o P' ∧ (∀ z ∈ P', z ∈ P ∨ w.heap.size ≤ z) ∧ Only P w w'
def StepR (w w' : World) (bs : Nat) (L : List Nat) (u y : Value) (o : Ob) (R : List Nat) : Prop := ∃ R', RS w' bs L u y o R' ∧ (∀ z ∈ R', z ∈ R ∨ w.heap.size ≤ z) ∧ Only R w w'

theorem PS.same {n : Nat} {w w' : World} {bw : Nat} {L P : List Nat} {t x : Value} {o : Ob} (h : PS n w bw L t x o P) (ho : Only [] w w') : StepP n w w' bw L t x o P := ⟨P, h.only ho (by simp), fun _ hz => .inl hz, ho.mono (by simp)⟩
theorem RS.same {w w' : World} {bs : Nat} {L R : List Nat} {u y : Value} {o : Ob} (h : RS w bs L u y o R) (ho : Only [] w w') : StepR w w' bs L u y o R := ⟨R, h.only ho (by simp), fun _ hz => .inl hz, ho.mono (by simp)⟩

theorem PS.cd {n : Nat} {w w' : World} {bw bt b : Nat} {L F H H' : List Nat} {s s' : TE} (_h : Cd n w b bw bt H F L s) (h' : Cd n w' b bw bt H' F L s') (h4 : ∀ y ∈ H', y ∈ H ∨ w.heap.size ≤ y) (ho : Only (bt :: b :: H) w w') :
    StepP n w w' bw L (pt bt) (pt b) (.on s') (bt :: bw :: b :: (H ++ F)) := by
  refine ⟨_, .on h', fun z hz => ?_, ho.mono (fun z hz => ?_)⟩
  · simp only [List.mem_cons, List.mem_append] at hz ⊢
    rcases hz with q | q | q | q | q
    · exact .inl (.inl q)
    · exact .inl (.inr (.inl q))
    · exact .inl (.inr (.inr (.inl q)))
    · rcases h4 z q with q | q
      · exact .inl (.inr (.inr (.inr (.inl q))))
      · exact .inr q
    · exact .inl (.inr (.inr (.inr (.inr q))))
  · simp only [List.mem_cons, List.mem_append] at hz ⊢
    rcases hz with q | q | q
    · exact .inl q
    · exact .inr (.inr (.inl q))
    · exact .inr (.inr (.inr (.inl q)))

theorem RS.rcd {w w' : World} {bs rb ru gt g g' : Nat} {L : List Nat} {s s' : TE} (hs : Sc w bs L) (_h : RCd w rb bs ru gt g s) (hb : bs ∉ [rb, ru, gt, g]) (h' : RCd w' rb bs ru gt g' s') (h4 : g' = g ∨ w.heap.size ≤ g') (ho : Only [gt, rb, g] w w') :
    StepR w w' bs L (pt ru) (pt rb) (.on s') [bs, rb, ru, gt, g] := by
  simp only [List.mem_cons, List.not_mem_nil, or_false, not_or] at hb
  have l := hs.lt
  have hsc : Sc w' bs L := hs.only ho (by simp only [List.mem_cons, List.not_mem_nil, or_false]; omega)
  refine ⟨_, .on hsc h' (by simp only [List.mem_cons, List.not_mem_nil, or_false]; omega), fun z hz => ?_, ho.mono (fun z hz => ?_)⟩
  · simp only [List.mem_cons, List.not_mem_nil, or_false] at hz ⊢; omega
  · simp only [List.mem_cons, List.not_mem_nil, or_false] at hz ⊢; omega

theorem PS.bins {n : Nat} {w : World} {bw : Nat} {L P G : List Nat} {t x v : Value} {o : Ob} {l : List Bn} (h : PS n w bw L t x o P) (hl : BinsIn w v G l) (hG : ∀ g ∈ G, g ∉ P) (hlen : l.length ≤ 1000) (hd : o.d ≤ 1000000) :
    Calls Try.prog 24 #[x, v] w fun en w' => en = .returned (.int .i64 (o.bins l).1) ∧ StepP n w w' bw L t x (o.bins l).2 P := by
  cases h with
  | no0 h1 h2 => exact bins_nil_any.mono fun _ _ q => ⟨q.1, (PS.no0 h1 h2).same q.2⟩
  | no1 h1 h2 h3 h4 => exact bins_nil_any.mono fun _ _ q => ⟨q.1, (PS.no1 h1 h2 h3 h4).same q.2⟩
  | on h1 =>
    simp only [Ob.bins]
    simp only [Ob.d] at hd
    split
    · rename_i hv
      refine (h1.bins hl (fun g hg hm => hG g hg ?_) hv (by omega)).mono ?_
      · simp only [List.mem_cons, List.mem_append] at hm ⊢
        rcases hm with q | q | q
        · exact .inl q
        · exact .inr (.inr (.inl q))
        · exact .inr (.inr (.inr (.inl q)))
      · rintro en w' ⟨rfl, H', r1, r2, r3⟩
        exact ⟨rfl, PS.cd h1 r1 r2 r3⟩
    · rename_i hv
      have hv' : ∃ x ∈ l, ¬ x.ok := by
        by_cases e : ∃ x ∈ l, ¬ x.ok
        · exact e
        · exact absurd (fun x hx => Classical.byContradiction fun q => e ⟨x, hx, q⟩) hv
      obtain ⟨_, _, _, _, c5, _⟩ := h1.enc.cells
      exact (bins_bad_any c5 h1.enc.lt hl hv' (by omega)).mono fun _ _ q => ⟨q.1, (PS.on h1).same q.2⟩
  | over h1 h2 h3 h4 h5 h6 => exact (bins_ended_any h4).mono fun _ _ q => ⟨q.1, (PS.over h1 h2 h3 h4 h5 h6).same q.2⟩

theorem RS.bins {w : World} {bs : Nat} {L R G : List Nat} {u y v : Value} {o : Ob} {l : List Bn} (h : RS w bs L u y o R) (hl : BinsIn w v G l) (hG : ∀ g ∈ G, g ∉ R) (hlen : l.length ≤ 1000) (hd : o.d ≤ 1000000) :
    Calls Try.prog 33 #[y, v] w fun en w' => en = .returned (.int .i64 (o.bins l).1) ∧ StepR w w' bs L u y (o.bins l).2 R := by
  cases h with
  | no0 h1 => exact rbins_nil.mono fun _ _ q => ⟨q.1, (RS.no0 h1).same q.2⟩
  | no1 h1 h2 h3 h4 => exact rbins_nil.mono fun _ _ q => ⟨q.1, (RS.no1 h1 h2 h3 h4).same q.2⟩
  | on h1 h2 h3 =>
    simp only [Ob.bins]
    simp only [Ob.d] at hd
    split
    · rename_i hv
      refine (rbins_ok h2 hl (fun g hg hm => hG g hg ?_) hv (by omega)).mono ?_
      · simp only [List.mem_cons, List.not_mem_nil, or_false] at hm ⊢; omega
      · rintro en w' ⟨rfl, g', r1, r2, r3⟩
        exact ⟨rfl, RS.rcd h1 h2 h3 r1 r2 r3⟩
    · rename_i hv
      have hv' : ∃ x ∈ l, ¬ x.ok := by
        by_cases e : ∃ x ∈ l, ¬ x.ok
        · exact e
        · exact absurd (fun x hx => Classical.byContradiction fun q => e ⟨x, hx, q⟩) hv
      obtain ⟨_, _, _, c5, _⟩ := h2.enc.cells
      exact (rbins_bad c5 hl hv' (by omega)).mono fun _ _ q => ⟨q.1, (RS.on h1 h2 h3).same q.2⟩
  | over h1 h2 h3 h4 h5 h6 => exact (rbins_ended h4).mono fun _ _ q => ⟨q.1, (RS.over h1 h2 h3 h4 h5 h6).same q.2⟩

theorem PS.put {n : Nat} {w : World} {bw : Nat} {L P : List Nat} {t x : Value} {o : Ob} (h : PS n w bw L t x o P) (c : Int) (bit : Nat) (hd : o.d ≤ 1000000) :
    Calls Try.prog 23 #[x, .agg #[.int .i64 c, .int .u8 bit]] w fun en w' => en = .returned (.int .i64 (o.put (c, bit)).1) ∧ StepP n w w' bw L t x (o.put (c, bit)).2 P := by
  have hA : Only [] w ((w.alloc (.cells #[.int .i64 c, .int .u8 bit] 25)).alloc (.cells #[.int .i64 c, .int .u8 bit] 25)) := ((Only.refl [] w).alloc _).alloc _
  refine put_of (((h.only hA (by simp)).bins (one_bin w c bit) ?_ (by simp) hd).mono ?_)
  · intro g hg hm
    have := h.lt g hm
    simp only [List.mem_singleton] at hg
    omega
  · rintro en w' ⟨rfl, P', q1, q2, q3⟩
    refine ⟨rfl, P', q1, fun z hz => ?_, (hA.mono (by simp)).trans q3 (fun z hz => .inl hz)⟩
    rcases q2 z hz with q | q
    · exact .inl q
    · right; simp at q; omega

theorem RS.put {w : World} {bs : Nat} {L R : List Nat} {u y : Value} {o : Ob} (h : RS w bs L u y o R) (c : Int) (bit : Nat) (hd : o.d ≤ 1000000) :
    Calls Try.prog 35 #[y, .agg #[.int .i64 c, .int .u8 bit]] w fun en w' => en = .returned (.int .i64 (o.put (c, bit)).1) ∧ StepR w w' bs L u y (o.put (c, bit)).2 R := by
  have hA : Only [] w ((w.alloc (.cells #[.int .i64 c, .int .u8 bit] 25)).alloc (.cells #[.int .i64 c, .int .u8 bit] 25)) := ((Only.refl [] w).alloc _).alloc _
  refine rput_of (((h.only hA (by simp)).bins (one_bin w c bit) ?_ (by simp) hd).mono ?_)
  · intro g hg hm
    have := h.lt g hm
    simp only [List.mem_singleton] at hg
    omega
  · rintro en w' ⟨rfl, P', q1, q2, q3⟩
    refine ⟨rfl, P', q1, fun z hz => ?_, (hA.mono (by simp)).trans q3 (fun z hz => .inl hz)⟩
    rcases q2 z hz with q | q
    · exact .inl q
    · right; simp at q; omega

theorem PS.stop0 {n : Nat} {w : World} {bw : Nat} {L P : List Nat} {t x : Value} {o : Ob} (h : PS n w bw L t x o P) (hd : o.d ≤ 1000000) :
    Calls Try.prog 25 #[x, .bool false] w fun en w' => en = .returned (.int .i64 o.stop0.1) ∧ StepP n w w' bw L t x o.stop0.2 P := by
  cases h with
  | no0 h1 h2 => exact stop_nil_any.mono fun _ _ q => ⟨q.1, (PS.no0 h1 h2).same q.2⟩
  | no1 h1 h2 h3 h4 => exact stop_nil_any.mono fun _ _ q => ⟨q.1, (PS.no1 h1 h2 h3 h4).same q.2⟩
  | on h1 =>
    simp only [Ob.d] at hd
    refine (h1.stop0 (by omega)).mono ?_
    rintro en w' ⟨rfl, H', r1, r2, r3⟩
    exact ⟨rfl, PS.cd h1 r1 r2 r3⟩
  | over h1 h2 h3 h4 h5 h6 => exact (stop_ended_any h4).mono fun _ _ q => ⟨q.1, (PS.over h1 h2 h3 h4 h5 h6).same q.2⟩

theorem RS.stop0 {w : World} {bs : Nat} {L R : List Nat} {u y : Value} {o : Ob} (h : RS w bs L u y o R) (hd : o.d ≤ 1000000) :
    Calls Try.prog 34 #[y, .bool false] w fun en w' => en = .returned (.int .i64 o.stop0.1) ∧ StepR w w' bs L u y o.stop0.2 R := by
  cases h with
  | no0 h1 => exact rstop_nil.mono fun _ _ q => ⟨q.1, (RS.no0 h1).same q.2⟩
  | no1 h1 h2 h3 h4 => exact rstop_nil.mono fun _ _ q => ⟨q.1, (RS.no1 h1 h2 h3 h4).same q.2⟩
  | on h1 h2 h3 =>
    simp only [Ob.d] at hd
    refine (rstop_false h2 (by omega)).mono ?_
    rintro en w' ⟨rfl, g', r1, r2, r3⟩
    exact ⟨rfl, RS.rcd h1 h2 h3 r1 r2 (r3.mono (by simp))⟩
  | over h1 h2 h3 h4 h5 h6 => exact (rstop_ended h4).mono fun _ _ q => ⟨q.1, (RS.over h1 h2 h3 h4 h5 h6).same q.2⟩

theorem PS.stop1 {n : Nat} {w : World} {bw : Nat} {L P : List Nat} {t x : Value} {o : Ob} (h : PS n w bw L t x o P) (hd : o.d + L.length ≤ 1000000) :
    Calls Try.prog 25 #[x, .bool true] w fun en w' => en = .returned (.int .i64 o.stop1.1) ∧ StepP n w w' bw (L ++ o.out) t x o.stop1.2 P := by
  cases h with
  | no0 h1 h2 => rw [show L ++ (Ob.no none).out = L from List.append_nil _]; exact stop_nil_any.mono fun _ _ q => ⟨q.1, (PS.no0 h1 h2).same q.2⟩
  | @no1 _ _ T h1 h2 h3 h4 => rw [show L ++ (Ob.no (some T)).out = L from List.append_nil _]; exact stop_nil_any.mono fun _ _ q => ⟨q.1, (PS.no1 h1 h2 h3 h4).same q.2⟩
  | @on F H bt b s h1 =>
    simp only [Ob.d] at hd
    refine (h1.stop1 (by omega)).mono ?_
    rintro en w' ⟨rfl, F', r1, r2, r3, r4, r5, r6⟩
    have l1 := h1.enc.lt
    have l2 := h1.wr.fresh
    have hn := h1.n
    have hsz := h1.size
    refine ⟨rfl, _, .over r1 r2 r5 r3 ?_ ?_, fun z hz => ?_, r6.mono (fun z hz => ?_)⟩
    · intro q
      simp only [List.mem_cons] at q
      rcases q with q | q | q
      · exact h1.d1 (by simp [q])
      · exact h1.d3 (by simp [q])
      · rcases r4 b q with q | q
        · exact h1.d4 b q (by simp)
        · omega
    · intro z hz
      simp only [List.mem_cons, List.mem_append] at hz hn
      rcases hz with q | q | q | q
      · exact hn z (.inl q)
      · exact hn z (.inr (.inl q))
      · exact hn z (.inr (.inr (.inl q)))
      · rcases r4 z q with q | q
        · exact hn z (.inr (.inr (.inr (.inr q))))
        · omega
    · simp only [List.mem_cons, List.mem_append] at hz ⊢
      rcases hz with q | q | q | q
      · exact .inl (.inl q)
      · exact .inl (.inr (.inl q))
      · exact .inl (.inr (.inr (.inl q)))
      · rcases r4 z q with q | q
        · exact .inl (.inr (.inr (.inr (.inr q))))
        · exact .inr q
    · simp only [List.mem_cons, List.mem_append] at hz ⊢
      rcases hz with q | q | q | q
      · exact .inr (.inr (.inl q))
      · exact .inr (.inl q)
      · exact .inr (.inr (.inr (.inl q)))
      · exact .inr (.inr (.inr (.inr q)))
  | @over _ _ _ T h1 h2 h3 h4 h5 h6 => rw [show L ++ (Ob.over T).out = L from List.append_nil _]; exact (stop_ended_any h4).mono fun _ _ q => ⟨q.1, (PS.over h1 h2 h3 h4 h5 h6).same q.2⟩

theorem RS.stop1 {w : World} {bs : Nat} {L R : List Nat} {u y : Value} {o : Ob} (h : RS w bs L u y o R) (hd : o.d + L.length ≤ 1000000) :
    Calls Try.prog 34 #[y, .bool true] w fun en w' => en = .returned (.int .i64 o.stop1.1) ∧ StepR w w' bs (L ++ o.out) u y o.stop1.2 R := by
  cases h with
  | no0 h1 => rw [show L ++ (Ob.no none).out = L from List.append_nil _]; exact rstop_nil.mono fun _ _ q => ⟨q.1, (RS.no0 h1).same q.2⟩
  | @no1 _ _ T h1 h2 h3 h4 => rw [show L ++ (Ob.no (some T)).out = L from List.append_nil _]; exact rstop_nil.mono fun _ _ q => ⟨q.1, (RS.no1 h1 h2 h3 h4).same q.2⟩
  | on h1 h2 h3 =>
    simp only [Ob.d] at hd
    refine (rstop_true h2 (by omega) h1.1 h1.2 ?_).mono ?_
    · simp only [List.mem_cons, List.not_mem_nil, or_false] at h3 ⊢; omega
    · rintro en w' ⟨rfl, r1, r2, r3, r4, r5⟩
      have e1 := h2.h1
      have e2 := h2.h3
      simp only [List.mem_cons, List.not_mem_nil, or_false, not_or] at h3
      refine ⟨rfl, _, .over ⟨r1, r2⟩ r4 h2.h5 r3 ?_ ?_, fun z hz => ?_, r5.mono (fun z hz => ?_)⟩
      · simp only [List.mem_cons, List.not_mem_nil, or_false]; omega
      · simp only [List.mem_cons, List.not_mem_nil, or_false]; omega
      · simp only [List.mem_cons, List.not_mem_nil, or_false] at hz ⊢; omega
      · simp only [List.mem_cons, List.not_mem_nil, or_false] at hz ⊢; omega
  | @over _ _ _ T h1 h2 h3 h4 h5 h6 => rw [show L ++ (Ob.over T).out = L from List.append_nil _]; exact (rstop_ended h4).mono fun _ _ q => ⟨q.1, (RS.over h1 h2 h3 h4 h5 h6).same q.2⟩

theorem PS.new {n : Nat} {w : World} {bw : Nat} {L P : List Nat} {t x : Value} {o : Ob} (h : PS n w bw L t x o P) (hL : L.length ≤ 1000000) :
    Calls Try.prog 22 #[pt bw, t] w fun en w' => ∃ x', en = .returned (.tuple #[x', .int .i64 (o.new L.length).1]) ∧ StepP n w w' bw L t x' (o.new L.length).2 P := by
  have key : ∀ {F : List Nat} {bt : Nat} {T : Nat → St}, Wr w bw F L → Tab w bt T → bt ∉ bw :: F → (∀ z ∈ bt :: bw :: F, n ≤ z) → o.tab = some T → (∀ z ∈ bt :: bw :: F, z ∈ P) →
      Calls Try.prog 22 #[pt bw, pt bt] w fun en w' => ∃ x', en = .returned (.tuple #[x', .int .i64 (o.new L.length).1]) ∧ StepP n w w' bw L (pt bt) x' (o.new L.length).2 P := by
    intro F bt T h1 h2 h3 h4 h5 h6
    by_cases h8 : L.length % 8 = 0
    · have e : o.new L.length = (0, .on ⟨T, E.ini⟩) := by unfold Ob.new; rw [h5]; simp only []; rw [if_pos h8]
      rw [e]
      refine (Cd.new h1 h8 (by omega) h2 h3 h4).mono ?_
      rintro en w' ⟨b, rfl, r1, r2, r3⟩
      refine ⟨_, rfl, _, .on r2, fun z hz => ?_, r3.mono (by simp)⟩
      simp only [List.mem_cons, List.nil_append] at hz
      rcases hz with q | q | q | q
      · exact .inl (h6 z (by simp [q]))
      · exact .inl (h6 z (by simp [q]))
      · exact .inr (by omega)
      · exact .inl (h6 z (by simp [q]))
    · have e : o.new L.length = (8, .no (some T)) := by unfold Ob.new; rw [h5]; simp only []; rw [if_neg h8]
      rw [e]
      refine (enew_state_any h1 h8 (by omega)).mono ?_
      rintro en w' ⟨rfl, r1⟩
      exact ⟨_, rfl, _, .no1 (h1.only r1 (by simp) (by simp)) (h2.only r1 (by simp)) h3 h4, fun z hz => .inl (h6 z hz), r1.mono (by simp)⟩
  cases h with
  | no0 h1 h2 => exact enew_nil2_any.mono fun _ _ q => ⟨_, q.1, (PS.no0 h1 h2).same q.2⟩
  | no1 h1 h2 h3 h4 => exact key h1 h2 h3 h4 rfl (fun z hz => hz)
  | on h1 =>
    refine key h1.wr h1.tab h1.d2 (fun z hz => h1.n z ?_) rfl (fun z hz => ?_)
    · simp only [List.mem_cons, List.mem_append] at hz ⊢
      rcases hz with q | q | q
      · exact .inl q
      · exact .inr (.inl q)
      · exact .inr (.inr (.inr (.inr q)))
    · simp only [List.mem_cons, List.mem_append] at hz ⊢
      rcases hz with q | q | q
      · exact .inl q
      · exact .inr (.inl q)
      · exact .inr (.inr (.inr (.inr q)))
  | over h1 h2 h3 h4 h5 h6 =>
    refine key h1 h2 h3 (fun z hz => h6 z ?_) rfl (fun z hz => ?_)
    · simp only [List.mem_cons] at hz ⊢
      rcases hz with q | q | q
      · exact .inl q
      · exact .inr (.inl q)
      · exact .inr (.inr (.inr q))
    · simp only [List.mem_cons] at hz ⊢
      rcases hz with q | q | q
      · exact .inl q
      · exact .inr (.inl q)
      · exact .inr (.inr (.inr q))

theorem RS.new {w : World} {bs : Nat} {L R : List Nat} {u y : Value} {o : Ob} (h : RS w bs L u y o R) :
    Calls Try.prog 31 #[pt bs, u] w fun en w' => ∃ y', en = .returned (.tuple #[y', .int .i64 (o.new L.length).1]) ∧ StepR w w' bs L u y' (o.new L.length).2 R := by
  have key : ∀ {ru gt : Nat} {T : Nat → St}, Sc w bs L → RTab w ru gt T → ru ≠ gt → bs ∉ [ru, gt] → o.tab = some T → (∀ z ∈ [bs, ru, gt], z ∈ R) →
      Calls Try.prog 31 #[pt bs, pt ru] w fun en w' => ∃ y', en = .returned (.tuple #[y', .int .i64 (o.new L.length).1]) ∧ StepR w w' bs L (pt ru) y' (o.new L.length).2 R := by
    intro ru gt T h1 h2 h3 h4 h5 h6
    have l1 := h1.lt
    have l2 := h2.lt
    have m1 := h6 bs (by simp)
    have m2 := h6 ru (by simp)
    have m3 := h6 gt (by simp)
    simp only [List.mem_cons, List.not_mem_nil, or_false, not_or] at h4
    by_cases h8 : L.length % 8 = 0
    · have e : o.new L.length = (0, .on ⟨T, E.ini⟩) := by unfold Ob.new; rw [h5]; simp only []; rw [if_pos h8]
      rw [e]
      refine (renew_ok h2 h3 h1.1 (by rw [txt_size]; exact h8)).mono ?_
      rintro en w' ⟨b, g, rfl, r1, r2, r3, r4⟩
      refine ⟨_, rfl, _, .on (h1.only r4 (by simp)) r3 ?_, fun z hz => ?_, r4.mono (by simp)⟩
      · simp only [List.mem_cons, List.not_mem_nil, or_false]; omega
      · simp only [List.mem_cons, List.not_mem_nil, or_false] at hz
        rcases hz with q | q | q | q | q
        · exact .inl (by rw [q]; exact m1)
        · exact .inr (by omega)
        · exact .inl (by rw [q]; exact m2)
        · exact .inl (by rw [q]; exact m3)
        · exact .inr (by omega)
    · have e : o.new L.length = (8, .no (some T)) := by unfold Ob.new; rw [h5]; simp only []; rw [if_neg h8]
      rw [e]
      refine (renew_state h1.1 (by rw [txt_size]; exact h8)).mono ?_
      rintro en w' ⟨rfl, r1⟩
      exact ⟨_, rfl, _, .no1 (h1.only r1 (by simp)) (h2.only r1 (by simp) (by simp)) h3 (by simp only [List.mem_cons, List.not_mem_nil, or_false]; omega), fun z hz => .inl (h6 z hz), r1.mono (by simp)⟩
  cases h with
  | no0 h1 => exact renew_nil.mono fun _ _ q => ⟨_, q.1, (RS.no0 h1).same q.2⟩
  | no1 h1 h2 h3 h4 => exact key h1 h2 h3 h4 rfl (fun z hz => hz)
  | on h1 h2 h3 =>
    refine key h1 h2.tab h2.h5 ?_ rfl ?_
    · simp only [List.mem_cons, List.not_mem_nil, or_false] at h3 ⊢; omega
    · intro z hz; simp only [List.mem_cons, List.not_mem_nil, or_false] at hz ⊢; omega
  | over h1 h2 h3 h4 h5 h6 =>
    refine key h1 h2 h3 ?_ rfl ?_
    · simp only [List.mem_cons, List.not_mem_nil, or_false] at h5 ⊢; omega
    · intro z hz; simp only [List.mem_cons, List.not_mem_nil, or_false] at hz ⊢; omega

section
variable {w0 w : World} {t u x y : Value} {bw bs : Nat} {LP LR : List Nat} {p r : Ob}

/-- The blocks of the bins lie behind all that both sides have, or ahead. -/
def Aside (w0 w : World) (G : List Nat) : Prop := ∀ g ∈ G, g < w0.heap.size ∨ w.heap.size ≤ g

theorem MS.binsP {w1 : World} {G : List Nat} {v : Value} {l : List Bn} (h : MS w0 w t u x y bw bs LP LR p r) (ho : Only [] w w1) (hl : BinsIn w1 v G l) (hG : ∀ g ∈ G, w.heap.size ≤ g) (hlen : l.length ≤ 1000) (hd : p.d ≤ 1000000) :
    Calls Try.prog 24 #[x, v] w1 fun en w' => en = .returned (.int .i64 (p.bins l).1) ∧ MS w0 w' t u x y bw bs LP LR (p.bins l).2 r := by
  obtain ⟨h1, P, R, h2, h3, h4, h5⟩ := h
  refine ((h2.only ho (by simp)).bins hl (fun g hg hm => by have := h2.lt g hm; have := hG g hg; omega) hlen hd).mono ?_
  rintro en w' ⟨rfl, P', q1, q2, q3⟩
  exact ⟨rfl, MS.mkP (h1.trans ho (by simp)) (h2.only ho (by simp)) (h3.only ho (by simp)) h4 h5 q1 q2 q3⟩

theorem MS.binsR {w1 : World} {G : List Nat} {v : Value} {l : List Bn} (h : MS w0 w t u x y bw bs LP LR p r) (ho : Only [] w w1) (hl : BinsIn w1 v G l) (hG : ∀ g ∈ G, w.heap.size ≤ g) (hlen : l.length ≤ 1000) (hd : r.d ≤ 1000000) :
    Calls Try.prog 33 #[y, v] w1 fun en w' => en = .returned (.int .i64 (r.bins l).1) ∧ MS w0 w' t u x y bw bs LP LR p (r.bins l).2 := by
  obtain ⟨h1, P, R, h2, h3, h4, h5⟩ := h
  refine ((h3.only ho (by simp)).bins hl (fun g hg hm => by have := h3.lt g hm; have := hG g hg; omega) hlen hd).mono ?_
  rintro en w' ⟨rfl, P', q1, q2, q3⟩
  exact ⟨rfl, MS.mkR (h1.trans ho (by simp)) (h2.only ho (by simp)) (h3.only ho (by simp)) h4 h5 q1 q2 q3⟩

theorem MS.putP (h : MS w0 w t u x y bw bs LP LR p r) (c : Int) (bit : Nat) (hd : p.d ≤ 1000000) :
    Calls Try.prog 23 #[x, .agg #[.int .i64 c, .int .u8 bit]] w fun en w' => en = .returned (.int .i64 (p.put (c, bit)).1) ∧ MS w0 w' t u x y bw bs LP LR (p.put (c, bit)).2 r := by
  obtain ⟨h1, P, R, h2, h3, h4, h5⟩ := h
  refine (h2.put c bit hd).mono ?_
  rintro en w' ⟨rfl, P', q1, q2, q3⟩
  exact ⟨rfl, MS.mkP h1 h2 h3 h4 h5 q1 q2 q3⟩

theorem MS.putR (h : MS w0 w t u x y bw bs LP LR p r) (c : Int) (bit : Nat) (hd : r.d ≤ 1000000) :
    Calls Try.prog 35 #[y, .agg #[.int .i64 c, .int .u8 bit]] w fun en w' => en = .returned (.int .i64 (r.put (c, bit)).1) ∧ MS w0 w' t u x y bw bs LP LR p (r.put (c, bit)).2 := by
  obtain ⟨h1, P, R, h2, h3, h4, h5⟩ := h
  refine (h3.put c bit hd).mono ?_
  rintro en w' ⟨rfl, P', q1, q2, q3⟩
  exact ⟨rfl, MS.mkR h1 h2 h3 h4 h5 q1 q2 q3⟩

/-- What Stop leaves. -/
def Ob.stop (o : Ob) (e : Bool) : Int × Ob := if e then o.stop1 else o.stop0
def Ob.outs (o : Ob) (e : Bool) : List Nat := if e then o.out else []

theorem MS.stopP (h : MS w0 w t u x y bw bs LP LR p r) (e : Bool) (hd : p.d + LP.length ≤ 1000000) :
    Calls Try.prog 25 #[x, .bool e] w fun en w' => en = .returned (.int .i64 (Ob.stop p e).1) ∧ MS w0 w' t u x y bw bs (LP ++ Ob.outs p e) LR (Ob.stop p e).2 r := by
  obtain ⟨h1, P, R, h2, h3, h4, h5⟩ := h
  cases e with
  | false =>
    rw [show LP ++ Ob.outs p false = LP from List.append_nil _]
    refine (h2.stop0 (by omega)).mono ?_
    rintro en w' ⟨rfl, P', q1, q2, q3⟩
    exact ⟨rfl, MS.mkP h1 h2 h3 h4 h5 q1 q2 q3⟩
  | true =>
    refine (h2.stop1 hd).mono ?_
    rintro en w' ⟨rfl, P', q1, q2, q3⟩
    exact ⟨rfl, MS.mkP h1 h2 h3 h4 h5 q1 q2 q3⟩

theorem MS.stopR (h : MS w0 w t u x y bw bs LP LR p r) (e : Bool) (hd : r.d + LR.length ≤ 1000000) :
    Calls Try.prog 34 #[y, .bool e] w fun en w' => en = .returned (.int .i64 (Ob.stop r e).1) ∧ MS w0 w' t u x y bw bs LP (LR ++ Ob.outs r e) p (Ob.stop r e).2 := by
  obtain ⟨h1, P, R, h2, h3, h4, h5⟩ := h
  cases e with
  | false =>
    rw [show LR ++ Ob.outs r false = LR from List.append_nil _]
    refine (h3.stop0 (by omega)).mono ?_
    rintro en w' ⟨rfl, P', q1, q2, q3⟩
    exact ⟨rfl, MS.mkR h1 h2 h3 h4 h5 q1 q2 q3⟩
  | true =>
    refine (h3.stop1 hd).mono ?_
    rintro en w' ⟨rfl, P', q1, q2, q3⟩
    exact ⟨rfl, MS.mkR h1 h2 h3 h4 h5 q1 q2 q3⟩

theorem MS.newP (h : MS w0 w t u x y bw bs LP LR p r) (hL : LP.length ≤ 1000000) :
    Calls Try.prog 22 #[pt bw, t] w fun en w' => ∃ x', en = .returned (.tuple #[x', .int .i64 (p.new LP.length).1]) ∧ MS w0 w' t u x' y bw bs LP LR (p.new LP.length).2 r := by
  obtain ⟨h1, P, R, h2, h3, h4, h5⟩ := h
  refine (h2.new hL).mono ?_
  rintro en w' ⟨x', rfl, P', q1, q2, q3⟩
  exact ⟨x', rfl, MS.mkP h1 h2 h3 h4 h5 q1 q2 q3⟩

theorem MS.newR (h : MS w0 w t u x y bw bs LP LR p r) :
    Calls Try.prog 31 #[pt bs, u] w fun en w' => ∃ y', en = .returned (.tuple #[y', .int .i64 (r.new LR.length).1]) ∧ MS w0 w' t u x y' bw bs LP LR p (r.new LR.length).2 := by
  obtain ⟨h1, P, R, h2, h3, h4, h5⟩ := h
  refine (h3.new).mono ?_
  rintro en w' ⟨x', rfl, P', q1, q2, q3⟩
  exact ⟨x', rfl, MS.mkR h1 h2 h3 h4 h5 q1 q2 q3⟩

theorem MS.noX {T : Option (Nat → St)} (h : MS w0 w t u x y bw bs LP LR (.no T) r) : x = .pointer none := by obtain ⟨_, P, R, h2, _⟩ := h; cases h2 <;> rfl
theorem MS.noY {T : Option (Nat → St)} (h : MS w0 w t u x y bw bs LP LR p (.no T)) : y = .pointer none := by obtain ⟨_, P, R, _, h2, _⟩ := h; cases h2 <;> rfl
theorem MS.onX {s : TE} (h : MS w0 w t u x y bw bs LP LR (.on s) r) : ∃ b, x = pt b := by obtain ⟨_, P, R, h2, _⟩ := h; cases h2; exact ⟨_, rfl⟩
theorem MS.onY {s : TE} (h : MS w0 w t u x y bw bs LP LR p (.on s)) : ∃ b, y = pt b ∧ b < w.heap.size ∧ w.cell? ⟨b, 4, none⟩ = some (.bool false) := by
  obtain ⟨_, P, R, _, h2, _⟩ := h
  cases h2 with
  | on a1 a2 a3 =>
    obtain ⟨_, _, _, c5, _⟩ := a2.enc.cells
    exact ⟨_, rfl, a2.enc.lt, c5⟩
theorem MS.overY {T : Nat → St} (h : MS w0 w t u x y bw bs LP LR p (.over T)) : ∃ b, y = pt b ∧ b < w.heap.size ∧ w.cell? ⟨b, 4, none⟩ = some (.bool true) := by
  obtain ⟨_, P, R, _, h2, _⟩ := h
  cases h2 with
  | over a1 a2 a3 a4 a5 a6 => exact ⟨_, rfl, World.block_lt_of_cell? w _ a4, a4⟩

/-- The tables at the end. -/
theorem MS.tabs (h : MS w0 w t u x y bw bs LP LR p p) : (t = .pointer none ∧ u = .pointer none ∧ p.tab = none) ∨ ∃ T bt ru gt, p.tab = some T ∧ t = pt bt ∧ u = pt ru ∧ Tab w bt T ∧ RTab w ru gt T := by
  obtain ⟨_, P, R, h2, h3, _⟩ := h
  cases h2 with
  | no0 a1 a2 => cases h3 with | no0 b1 => exact .inl ⟨rfl, rfl, rfl⟩
  | no1 a1 a2 a3 a4 => cases h3 with | no1 b1 b2 b3 b4 => exact .inr ⟨_, _, _, _, rfl, rfl, rfl, a2, b2⟩
  | on a1 => cases h3 with | on b1 b2 b3 => exact .inr ⟨_, _, _, _, rfl, rfl, rfl, a1.tab, b2.tab⟩
  | over a1 a2 a3 a4 a5 a6 => cases h3 with | over b1 b2 b3 b4 b5 b6 => exact .inr ⟨_, _, _, _, rfl, rfl, rfl, a2, b2⟩

end

/-- A bit more in the writer, once the encoder has ended. -/
theorem MS.bitP {w0 w : World} {t u x y : Value} {bw bs : Nat} {LP LR : List Nat} {r : Ob} {T : Nat → St} (h : MS w0 w t u x y bw bs LP LR (.over T) r) (hL : LP.length ≤ 1000000) :
    Calls Try.prog 36 #[pt bw, .int .i64 1, .int .u64 0] w fun en w' => en = .returned (.int .i64 0) ∧ MS w0 w' t u x y bw bs (LP ++ [0]) LR (.over T) r := by
  obtain ⟨h1, P, R, h2, h3, h4, h5⟩ := h
  have h2' := h2
  cases h2 with
  | @over F bt b _ a1 a2 a3 a4 a5 a6 =>
    refine (put_any a1 1 0 (by decide) (by decide) (by omega)).mono ?_
    rintro en w' ⟨rfl, F', q1, q2, q3⟩
    have hs := h1.size
    have hb := World.block_lt_of_cell? w _ a4
    simp only [] at hb
    refine ⟨rfl, MS.mkP h1 h2' h3 h4 h5 (.over q1 (a2.only q3 a3) ?_ ?_ ?_ ?_) (fun z hz => ?_) (q3.mono (fun z hz => ?_))⟩
    · intro hm
      rcases List.mem_cons.1 hm with q | q
      · exact a3 (by simp [q])
      · rcases q2 _ q with q | q
        · exact a3 (by simp [q])
        · have := a2.lt; omega
    · rw [World.cell?_of_block (q3.block _ hb (fun hm => a5 (List.mem_cons_of_mem _ hm)))]
      exact a4
    · intro hm
      simp only [List.mem_cons] at hm
      rcases hm with q | q | q
      · exact a5 (by simp [q])
      · exact a5 (by simp [q])
      · rcases q2 _ q with q | q
        · exact a5 (by simp [q])
        · omega
    · intro z hz
      simp only [List.mem_cons] at hz a6
      rcases hz with q | q | q | q
      · exact a6 z (.inl q)
      · exact a6 z (.inr (.inl q))
      · exact a6 z (.inr (.inr (.inl q)))
      · rcases q2 z q with q | q
        · exact a6 z (.inr (.inr (.inr q)))
        · omega
    · simp only [List.mem_cons] at hz ⊢
      rcases hz with q | q | q | q
      · exact .inl (.inl q)
      · exact .inl (.inr (.inl q))
      · exact .inl (.inr (.inr (.inl q)))
      · rcases q2 z q with q | q
        · exact .inl (.inr (.inr (.inr q)))
        · exact .inr q
    · simp only [List.mem_cons] at hz ⊢
      rcases hz with q | q
      · exact .inr (.inl q)
      · exact .inr (.inr (.inr q))

/-- A new string, once the encoder has ended. -/
theorem MS.store {w0 w : World} {t u x y : Value} {bw bs : Nat} {LP LR : List Nat} {p : Ob} {T : Nat → St} (h : MS w0 w t u x y bw bs LP LR p (.over T)) (L' : List Nat) :
    MS w0 (w.setCell ⟨bs, 0, none⟩ (.string (txt L'))) t u x y bw bs LP L' p (.over T) := by
  obtain ⟨h1, P, R, h2, h3, h4, h5⟩ := h
  have h3' := h3
  cases h3 with
  | @over rb ru gt _ a1 a2 a3 a4 a5 a6 =>
    have hO : Only [bs] w (w.setCell ⟨bs, 0, none⟩ (.string (txt L'))) := (Only.refl [bs] w).setCell ⟨bs, 0, none⟩ (by simp) _
    have hne := a5
    simp only [List.mem_cons, List.not_mem_nil, or_false, not_or] at hne
    refine MS.mkR h1 h2 h3' h4 h5 (.over ⟨World.cell?_setCell_same _ _ _ a1.1, ?_⟩ (a2.only hO (by simp; omega) (by simp; omega)) a3 ?_ a5 a6) (fun z hz => .inl hz) (hO.mono (by simp))
    · rw [World.frozen?_setCell]
      exact a1.2
    · rw [World.cell?_setCell_far _ _ _ _ (by simp; omega)]
      exact a4

/-- At the beginning: the writer and the string, and tables, if there are any. -/
theorem MS.start0 {w0 w : World} {bw bs : Nat} {F L : List Nat} (ho : Only [] w0 w) (h1 : Wr w bw F L) (h2 : Sc w bs L) (h3 : ∀ z ∈ bw :: F, w0.heap.size ≤ z) (h4 : w0.heap.size ≤ bs) (h5 : bs ∉ bw :: F) :
    MS w0 w (.pointer none) (.pointer none) (.pointer none) (.pointer none) bw bs L L (.no none) (.no none) :=
  ⟨ho, _, _, .no0 h1 h3, .no0 h2, fun z hz hm => h5 (by simp only [List.mem_cons, List.not_mem_nil, or_false] at hm; rw [← hm]; exact hz), by simpa using h4⟩

theorem MS.start1 {w0 w : World} {bw bs bt ru gt : Nat} {F L : List Nat} {T : Nat → St} (ho : Only [] w0 w) (h1 : Wr w bw F L) (h2 : Sc w bs L) (h3 : ∀ z ∈ bw :: F, w0.heap.size ≤ z) (h4 : w0.heap.size ≤ bs) (h5 : bs ∉ bw :: F)
    (k1 : Tab w bt T) (k2 : RTab w ru gt T) (k3 : ru ≠ gt) (k4 : w0.heap.size ≤ bt) (k5 : w0.heap.size ≤ ru) (k6 : w0.heap.size ≤ gt) (k7 : ∀ z ∈ [bt, ru, gt], z ∉ bs :: bw :: F) (k8 : bt ∉ [ru, gt]) :
    MS w0 w (pt bt) (pt ru) (.pointer none) (.pointer none) bw bs L L (.no (some T)) (.no (some T)) := by
  have m1 := k7 bt (by simp)
  have m2 := k7 ru (by simp)
  have m3 := k7 gt (by simp)
  simp only [List.mem_cons, not_or] at m1 m2 m3 h5
  simp only [List.mem_cons, List.not_mem_nil, or_false, not_or] at k8
  refine ⟨ho, _, _, .no1 h1 k1 ?_ ?_, .no1 h2 k2 k3 ?_, fun z hz hm => ?_, fun z hz => ?_⟩
  · simp only [List.mem_cons, not_or]; exact m1.2
  · intro z hz
    rcases List.mem_cons.1 hz with q | q
    · omega
    · exact h3 z q
  · simp only [List.mem_cons, List.not_mem_nil, or_false]; omega
  · simp only [List.mem_cons, List.not_mem_nil, or_false] at hz hm
    rcases hm with q | q | q
    · rw [q] at hz
      rcases hz with e | e | e
      · omega
      · omega
      · exact h5.2 e
    · rw [q] at hz
      rcases hz with e | e | e
      · omega
      · omega
      · exact m2.2.2 e
    · rw [q] at hz
      rcases hz with e | e | e
      · omega
      · omega
      · exact m3.2.2 e
  · simp only [List.mem_cons, List.not_mem_nil, or_false] at hz; omega

end Go.Proofs.Ytbpdhfenomebpaa
