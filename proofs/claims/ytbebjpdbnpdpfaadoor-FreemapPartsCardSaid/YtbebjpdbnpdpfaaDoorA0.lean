/- What every text of this seat stands on: blocks of memory, what a step may change, and a law for 'for x := range f' over an iterator that hands over a known list. -/
import Derived.RangeFuncNested
import Derived.RangeFuncBound
import Derived.RangeFuncCalls
import Derived.RangeFuncLeaves
import Derived.RangeFuncBox
import Derived.Shelf.Abstract
import Derived.Shelf.RegionOpen
import Derived.WalkKit
import Derived.OwnWalkIn
import Derived.TacticsInMore
import Derived.LoopNIn
import Derived.LoopIn
import Derived.ProofKit
namespace Go.Proofs.YtbebjpdbnpdpfaaDoor
open Go.RowKit

/-! ### What a step may change -/

/-- Of the blocks that there were, only those in S may have changed. -/
structure Chg (S : Nat → Prop) (w w' : World) : Prop where
  os : w'.os = w.os
  tape : w'.tape = w.tape
  output : w'.output = w.output
  size : w.heap.size ≤ w'.heap.size
  keep : ∀ k, k < w.heap.size → ¬ S k → w'.heap[k]? = w.heap[k]?

/-- Nothing that there was has changed. -/
abbrev Same (w w' : World) : Prop := Chg (fun _ => False) w w'

theorem Chg.refl (S : Nat → Prop) (w : World) : Chg S w w := ⟨rfl, rfl, rfl, Nat.le_refl _, fun _ _ _ => rfl⟩
theorem Chg.trans' {S T : Nat → Prop} {a b c : World} (h : Chg S a b) (k : Chg T b c) (hT : ∀ j, j < a.heap.size → T j → S j) : Chg S a c :=
  ⟨k.os.trans h.os, k.tape.trans h.tape, k.output.trans h.output, Nat.le_trans h.size k.size,
   fun i hi hs => (k.keep i (Nat.lt_of_lt_of_le hi h.size) (fun ht => hs (hT i hi ht))).trans (h.keep i hi hs)⟩
theorem Chg.trans {S : Nat → Prop} {a b c : World} (h : Chg S a b) (k : Chg S b c) : Chg S a c := h.trans' k (fun _ _ h => h)
theorem Chg.mono {S T : Nat → Prop} {a b : World} (h : Chg S a b) (hT : ∀ j, j < a.heap.size → S j → T j) : Chg T a b :=
  ⟨h.os, h.tape, h.output, h.size, fun i hi hs => h.keep i hi (fun ht => hs (hT i hi ht))⟩
theorem Same.to {S : Nat → Prop} {a b : World} (h : Same a b) : Chg S a b := h.mono (fun _ _ h => h.elim)
theorem Chg.drew (S : Nat → Prop) (w : World) : Chg S w w.drew := ⟨rfl, rfl, rfl, Nat.le_refl _, fun _ _ _ => rfl⟩
theorem Chg.drewN (S : Nat → Prop) (w : World) (n : Nat) : Chg S w (w.drewN n) := ⟨rfl, rfl, rfl, Nat.le_refl _, fun _ _ _ => rfl⟩
theorem Chg.alloc (S : Nat → Prop) (w : World) (o : Obj) : Chg S w (w.alloc o) := ⟨rfl, rfl, rfl, by simp, fun k hk _ => Below.heap_alloc _ _ _ hk⟩
theorem Chg.setCell {S : Nat → Prop} (w : World) {p : Addr} (hp : S p.block) (u : Value) : Chg S w (w.setCell p u) :=
  ⟨rfl, rfl, rfl, by simp [World.setCell], fun k _ hs => Below.heap_setCell _ _ _ _ (fun e => hs (e ▸ hp))⟩
theorem Chg.putObj {S : Nat → Prop} (w : World) {l : Nat} (hl : S l) (o : Obj) : Chg S w (w.putObj l o) :=
  ⟨rfl, rfl, rfl, by simp, fun k _ hs => World.putObj_heap_other (fun e => hs (e ▸ hl))⟩
theorem Chg.grown {S : Nat → Prop} {w w' : World} {row : Option Nat} (hg : w.grownBy w' row) (hr : ∀ k, row = some k → k < w.heap.size → S k) : Chg S w w' :=
  ⟨hg.os, hg.tape, hg.output, hg.size, fun k hk hs => hg.block k hk (fun e => hs (hr k e.symm hk))⟩
theorem Chg.below {S : Nat → Prop} {w w' : World} {B : Nat} (h : Chg S w w') (hS : ∀ k, k < B → ¬ S k) (hB : B ≤ w.heap.size) : Below B w w' :=
  ⟨h.os, h.tape, h.output, h.size, fun k hk => h.keep k (by omega) (hS k hk)⟩
theorem Same.below {w w' : World} (h : Same w w') : Below w.heap.size w w' := Chg.below h (fun _ _ h => h) (Nat.le_refl _)
theorem Chg.of_below {S : Nat → Prop} {w w' : World} {B : Nat} (h : Below B w w') (hS : ∀ k, k < w.heap.size → B ≤ k → S k) : Chg S w w' :=
  ⟨h.os, h.tape, h.output, h.size, fun k hk hs => h.block k (Nat.lt_of_not_le (fun hB => hs (hS k hk hB)))⟩

/-! ### A block -/

/-- Block b holds just these cells, none of them frozen. -/
def Blk (w : World) (b : Nat) (t : TypeId) (c : List Value) : Prop := w.heap[b]? = some (.cells c.toArray t (0, 0))

theorem Blk.lt {w : World} {b : Nat} {t : TypeId} {c : List Value} (h : Blk w b t c) : b < w.heap.size := (Array.getElem?_eq_some_iff.1 h).1
theorem Blk.cell {w : World} {b : Nat} {t : TypeId} {c : List Value} (h : Blk w b t c) (o : Nat) : w.cell? ⟨b, o, none⟩ = c[o]? := by
  simp [World.cell?, show w.heap[b]? = _ from h]
theorem Blk.frozen {w : World} {b : Nat} {t : TypeId} {c : List Value} (h : Blk w b t c) (o : Nat) : w.frozen? ⟨b, o, none⟩ = false := by
  simp [World.frozen?, show w.heap[b]? = _ from h]
theorem Blk.keep {S : Nat → Prop} {w w' : World} {b : Nat} {t : TypeId} {c : List Value} (h : Blk w b t c) (hc : Chg S w w') (hb : ¬ S b) : Blk w' b t c :=
  (hc.keep b h.lt hb).trans h
theorem Blk.same {w w' : World} {b : Nat} {t : TypeId} {c : List Value} (h : Blk w b t c) (hc : Same w w') : Blk w' b t c := h.keep hc id
theorem Blk.set {w : World} {b : Nat} {t : TypeId} {c : List Value} (h : Blk w b t c) (o : Nat) (v : Value) : Blk (w.setCell ⟨b, o, none⟩ v) b t (c.set o v) := by
  obtain ⟨hlt, hk⟩ := Array.getElem?_eq_some_iff.1 (show w.heap[b]? = _ from h)
  show (w.heap.modify b _)[b]? = _
  rw [Array.getElem?_eq_getElem (by rw [Array.size_modify]; exact hlt), Array.getElem_modify_self, hk]
  simp
theorem Blk.set_ne {w : World} {b : Nat} {t : TypeId} {c : List Value} (h : Blk w b t c) {p : Addr} (hp : p.block ≠ b) (v : Value) : Blk (w.setCell p v) b t c :=
  (Below.heap_setCell w p v b (fun e => hp e.symm)).trans h
theorem Blk.alloc {w : World} {b : Nat} {t : TypeId} {c : List Value} (h : Blk w b t c) (o : Obj) : Blk (w.alloc o) b t c := h.same (Chg.alloc _ _ _)
theorem Blk.new (w : World) (t : TypeId) (c : List Value) : Blk (w.alloc (.cells c.toArray t)) w.heap.size t c := World.alloc_heap_new w _
theorem Blk.inj {w : World} {b : Nat} {t t' : TypeId} {c c' : List Value} (h : Blk w b t c) (h' : Blk w b t' c') : t = t' ∧ c = c' := by
  have := (show w.heap[b]? = _ from h).symm.trans h'
  simp at this
  exact ⟨this.2, this.1⟩

/-! ### Iterators -/

/-- What a round of the loop's body does, which owns the blocks O: it changes these and new ones alone; behind it it owns O'. -/
structure Owns (O O' : Nat → Prop) (w w' : World) : Prop where
  chg : Chg O w w'
  grow : ∀ k, O' k → O k ∨ w.heap.size ≤ k
  lt : ∀ k, O' k → k < w'.heap.size

/-- What lies below B, and what the loop's body owns, lies as it lay. -/
abbrev Away (B : Nat) (O : Nat → Prop) (w w' : World) : Prop := Chg (fun k => B ≤ k ∧ ¬ O k) w w'

/-- An invariant of the loop's body does not mind what an iterator does beside. -/
def Calm (B : Nat) (J : Nat → (Nat → Prop) → World → Prop) : Prop := ∀ i O w w', J i O w → Away B O w w' → J i O w'

/-- The function g, closed over lb, called in W, hands the list xs over, one by one, to whatever loop, till a round says that it wants no more. -/
def IterAt {α : Type} (P : Program) (g : Nat) (lb : Array Value) (encs : α → Array Value) (xs : List α) (O : Nat → Prop) (W : World) : Prop :=
  ∀ (n l : Nat) (J Jx : Nat → (Nat → Prop) → World → Prop), Calm W.heap.size J → Calm W.heap.size Jx →
    (∀ (i : Nat) (hi : i < xs.length) (O1 : Nat → Prop) (W1 : World), J i O1 W1 → (∀ k, O1 k → k < W1.heap.size) →
      YieldAt Fence.wide n P l (encs xs[i]) W1 fun e W' => ∃ O', Owns O1 O' W1 W' ∧ ((e = .returned (.bool true) ∧ J (i + 1) O' W') ∨ (e = .returned (.bool false) ∧ Jx (i + 1) O' W'))) →
    J 0 O W →
    CallsIn Fence.wide n P g (#[.func (.yield l) #[] #[]] ++ lb) W fun e W' => (∃ v, e = .returned v) ∧ ∃ O', (J xs.length O' W' ∨ ∃ i, i ≤ xs.length ∧ Jx i O' W')

/-- How the body of a round may be left. -/
def roundEnd (I : Nat → (Nat → Prop) → World → Prop) (Ix : Code → Nat → (Nat → Prop) → World → Prop) (i : Nat) (O : Nat → Prop) (W : World) : Exit → Act → World → Prop
  | .normal, _, W' => ∃ O', Owns O O' W W' ∧ I i O' W'
  | .ret, _, W' => ∃ O', Owns O O' W W' ∧ Ix .ret i O' W'
  | .exit id, _, W' => ∃ O', Owns O O' W W' ∧ Ix (.exit id) i O' W'
  | .goto t, _, W' => ∃ O', Owns O O' W W' ∧ Ix (.goto t) i O' W'
  | .panic _, _, _ => False
  | .outgrown, _, _ => False

/-- Behind the assignment to the loop's variables: the world is as it was; then the body. -/
def RoundThen (P : Program) (n l : Nat) (body : Code) (I : Nat → (Nat → Prop) → World → Prop) (Ix : Code → Nat → (Nat → Prop) → World → Prop) (i : Nat) (O : Nat → Prop) (W : World) (a : Act) (W₁ : World) : Prop :=
  W₁ = W ∧ ∀ W2, I i O W2 → (∀ k, O k → k < W2.heap.size) → body.wpIn (Fence.wide.inRound l) n P (roundEnd I Ix (i + 1) O W2) a W2
theorem RoundThen.mk {P : Program} {n l : Nat} {body : Code} {I : Nat → (Nat → Prop) → World → Prop} {Ix : Code → Nat → (Nat → Prop) → World → Prop} {i : Nat} {O : Nat → Prop} {W : World} {a : Act}
    (h : ∀ W2, I i O W2 → (∀ k, O k → k < W2.heap.size) → body.wpIn (Fence.wide.inRound l) n P (roundEnd I Ix (i + 1) O W2) a W2) : RoundThen P n l body I Ix i O W a W := ⟨rfl, h⟩

theorem range_law {P : Program} {n : Nat} {α : Type} {g : Operand} {ps : Array Tmp} {assign body : Code} {Q : Exit → Act → World → Prop} {a : Act} {w : World}
    {gf : Nat} {lb : Array Value} (hg : a.eval g = .func (.func gf) #[] lb) (eg : ∀ args w, (callFunc gf args).run P w = .ok (.enter gf args) w)
    {encs : α → Array Value} {xs : List α} (O : Nat → Prop) (hO : ∀ k, O k → k < w.heap.size)
    (hit : ∀ O1 W1, Same w W1 → (∀ k, O1 k → O k ∨ w.heap.size ≤ k) → (∀ k, O1 k → k < W1.heap.size) → IterAt P gf lb encs xs O1 W1)
    (hps : ∀ x, (encs x).size = ps.size)
    (I : Nat → (Nat → Prop) → World → Prop) (Ix : Code → Nat → (Nat → Prop) → World → Prop) (hI : Calm w.heap.size I) (hIx : ∀ c, Calm w.heap.size (Ix c)) (h0 : I 0 O w)
    (hround : ∀ (n l i : Nat) (hi : i < xs.length) (O1 : Nat → Prop) (W : World), I i O1 W → (∀ k, O1 k → k < W.heap.size) →
      assign.wpIn (Fence.wide.inRound l) n P (Exit.then (RoundThen P n l body I Ix i O1 W) (fun _ _ _ => False))
        { tmps := (ps.zip (encs xs[i])).foldl (fun t (p, v) => t.setIfInBounds p v) a.tmps, defers := [] } W)
    (hdone : ∀ (D : Nat) (O1 : Nat → Prop) (W : World), w.heap.size ≤ D → ¬ O1 D → I xs.length O1 W → (∀ k, O1 k → k < W.heap.size) → W.heap[D]? = some (.deferred (some [])) → Q .normal { a with defers := { target := .collected D, args := #[] } :: a.defers } W)
    (hstop : ∀ (D : Nat) (c : Code) (i : Nat) (O1 : Nat → Prop) (W : World), w.heap.size ≤ D → ¬ O1 D → i ≤ xs.length → Ix c i O1 W → (∀ k, O1 k → k < W.heap.size) → W.heap[D]? = some (.deferred (some [])) → c.wpIn Fence.wide n P Q { a with defers := { target := .collected D, args := #[] } :: a.defers } W) :
    (Code.rangeFunc g ps assign body).wpIn Fence.wide n P Q a w := by
  refine wpIn_rangeFunc ?_
  intro fn hfn
  show ∃ l mark w₁ d w₁' f args w₂, (Instr.enterLoop fn a.tmps ps assign body none).run P w = .ok (l, mark) w₁ ∧ _
  obtain ⟨rec, hrec⟩ : ∃ rec : LoopState → Option Code → Loop, rec = fun st pe => { state := st, pending := pe, fn, tmps := a.tmps, params := ps, assign, body, defers := w.heap.size } := ⟨_, rfl⟩
  obtain ⟨W1, hW1⟩ : ∃ W1, (w.alloc (.deferred (some []))).alloc (.loop (rec .ready none)) = W1 := ⟨_, rfl⟩
  have hsz : W1.heap.size = w.heap.size + 2 := by rw [← hW1]; simp
  have hL1 : W1.heap[w.heap.size + 1]? = some (.loop (rec .ready none)) := by
    rw [← hW1]; have := World.alloc_heap_new (w.alloc (.deferred (some []))) (.loop (rec .ready none)); rwa [World.size_alloc] at this
  have hK1 : W1.heap[w.heap.size]? = some (.deferred (some [])) := by
    rw [← hW1]; exact (Below.heap_alloc _ _ _ (by simp)).trans (World.alloc_heap_new w _)
  have hS1 : Same w W1 := by rw [← hW1]; exact (Chg.alloc _ _ _).trans (Chg.alloc _ _ _)
  have hI1 : I 0 O W1 := hI 0 O w W1 h0 hS1.to
  -- what the law and the body own together
  let Z : (Nat → Prop) → Nat → Prop := fun O k => O k ∨ k = w.heap.size ∨ k = w.heap.size + 1
  have away : ∀ {O A B}, Away W1.heap.size (Z O) A B → Away w.heap.size O A B := fun {O A B} h => h.mono (fun j _ hj => ⟨by omega, fun hO => hj.2 (.inl hO)⟩)
  refine ⟨w.heap.size + 1, [{ target := .collected w.heap.size, args := #[] }], W1, { target := .fn (.func gf) lb, args := #[.func (.yield (w.heap.size + 1)) #[] #[]] }, W1, gf,
    #[.func (.yield (w.heap.size + 1)) #[] #[]] ++ lb, W1, ?_, ?_, ?_, ?_, fun h => by simp [Fence.wide] at h, ?_⟩
  · rw [← hW1, hrec]; exact run_enterLoop_outer _ _ _ _ _
  · simp only [resolve, hg]
    simp [go_sem]
  · exact fun _ _ => trivial
  · simp [invoke, go_sem, eg]
  -- the book-keeping: the record, the block for deferred calls, beside the body's own invariant
  let J : Nat → (Nat → Prop) → World → Prop := fun i O' W => ∃ O1, O' = Z O1 ∧ (¬ O1 w.heap.size ∧ ¬ O1 (w.heap.size + 1)) ∧ (∀ k, O1 k → k < W.heap.size) ∧ I i O1 W ∧ W.heap[w.heap.size + 1]? = some (.loop (rec .ready none)) ∧ W.heap[w.heap.size]? = some (.deferred (some []))
  let Jx : Nat → (Nat → Prop) → World → Prop := fun i O' W => ∃ O1, O' = Z O1 ∧ (¬ O1 w.heap.size ∧ ¬ O1 (w.heap.size + 1)) ∧ (∀ k, O1 k → k < W.heap.size) ∧ ∃ c, Ix c i O1 W ∧ W.heap[w.heap.size + 1]? = some (.loop (rec .done (some c))) ∧ W.heap[w.heap.size]? = some (.deferred (some []))
  have stay : ∀ {O1 A B k o}, Away W1.heap.size (Z O1) A B → (k = w.heap.size ∨ k = w.heap.size + 1) → A.heap[k]? = some o → B.heap[k]? = some o := fun {O1 A B k o} h hk ho =>
    (h.keep k (Array.getElem?_eq_some_iff.1 ho).1 (fun hh => hh.2 (.inr hk))).trans ho
  have hJ : Calm W1.heap.size J := by
    rintro i _ A B ⟨O1, rfl, hn, hv, hi, hl, hk⟩ h
    exact ⟨O1, rfl, hn, fun k hk => Nat.lt_of_lt_of_le (hv k hk) h.size, hI _ _ _ _ hi (away h), stay h (.inr rfl) hl, stay h (.inl rfl) hk⟩
  have hJx : Calm W1.heap.size Jx := by
    rintro i _ A B ⟨O1, rfl, hn, hv, c, hi, hl, hk⟩ h
    exact ⟨O1, rfl, hn, fun k hk => Nat.lt_of_lt_of_le (hv k hk) h.size, c, hIx _ _ _ _ _ hi (away h), stay h (.inr rfl) hl, stay h (.inl rfl) hk⟩
  have hOn : ¬ O w.heap.size ∧ ¬ O (w.heap.size + 1) := ⟨fun h => by have := hO _ h; omega, fun h => by have := hO _ h; omega⟩
  refine (hit (Z O) W1 hS1 (fun k hk => by rcases hk with h | h | h <;> first | exact .inl h | (right; omega)) (fun k hk => by rcases hk with h | h | h <;> first | (have := hO k h; omega) | omega) (n - 1) (w.heap.size + 1) J Jx hJ hJx ?_ ⟨O, rfl, hOn, fun k hk => by have := hO k hk; omega, hI1, hL1, hK1⟩).mono ?_
  · -- one round
    rintro i hi _ W ⟨O1, rfl, hn, _, hiv, hl, hk⟩ hval
    have hlt : w.heap.size + 1 < W.heap.size := (Array.getElem?_eq_some_iff.1 hl).1
    have hv1 : ∀ k, O1 k → k < W.heap.size := fun k hk => hval k (.inl hk)
    have hy := run_yield (P := P) (args := encs xs[i]) hl (by rw [hrec]; exact hps _)
    rw [hrec] at hy
    refine ⟨fn, _, assign, body, hy, roundIn_of_wpIn hfn ?_⟩
    have hr := hround (n - 1) (w.heap.size + 1) i hi O1 W hiv hv1
    refine wpIn_mono hr ?_
    rintro e a1 Wa he
    cases e with
    | normal =>
      obtain ⟨rfl, hb⟩ := he
      refine ⟨_, run_beginRound hl (by rw [hrec]), ?_⟩
      obtain ⟨W2, hW2⟩ : ∃ W2, Wa.putObj (w.heap.size + 1) (.loop { rec .ready none with state := .busy }) = W2 := ⟨_, rfl⟩
      rw [hW2]
      have hc2 : Chg (fun k => k = w.heap.size + 1) Wa W2 := by rw [← hW2]; exact Chg.putObj (S := fun k => k = w.heap.size + 1) _ rfl _
      have hl2 : W2.heap[w.heap.size + 1]? = some (.loop { rec .ready none with state := .busy }) := by rw [← hW2]; exact World.putObj_heap_same hlt
      have hk2 : W2.heap[w.heap.size]? = some (.deferred (some [])) := (hc2.keep _ (by omega) (by omega)).trans hk
      have hi2 : I i O1 W2 := hI _ _ _ _ hiv (hc2.mono (fun j _ hj => by subst hj; exact ⟨by omega, hn.2⟩))
      have hv2 : ∀ k, O1 k → k < W2.heap.size := fun k hk => Nat.lt_of_lt_of_le (hv1 k hk) hc2.size
      refine wpIn_mono (hb W2 hi2 hv2) ?_
      -- behind the body
      have fin : ∀ (jump : Option Code) (O' : Nat → Prop) (W3 : World), Owns O1 O' W2 W3 → ∃ W4, (Instr.endRound (w.heap.size + 1) jump).run P W3 = .ok (.bool jump.isNone) W4 ∧
          Away w.heap.size O' W3 W4 ∧ Owns (Z O1) (Z O') Wa W4 ∧ (¬ O' w.heap.size ∧ ¬ O' (w.heap.size + 1)) ∧ (∀ k, O' k → k < W4.heap.size) ∧
          W4.heap[w.heap.size + 1]? = some (.loop (rec (if jump.isNone then .ready else .done) jump)) ∧ W4.heap[w.heap.size]? = some (.deferred (some [])) := by
        intro jump O' W3 hown
        have hO'n : ¬ O' w.heap.size ∧ ¬ O' (w.heap.size + 1) := by
          have hsz2 := hc2.size
          constructor
          · intro h; rcases hown.grow _ h with h | h
            · exact hn.1 h
            · omega
          · intro h; rcases hown.grow _ h with h | h
            · exact hn.2 h
            · omega
        have hlt2 : w.heap.size + 1 < W2.heap.size := Nat.lt_of_lt_of_le hlt hc2.size
        have hl3 : W3.heap[w.heap.size + 1]? = some (.loop { rec .ready none with state := .busy }) := (hown.chg.keep _ hlt2 hn.2).trans hl2
        have hk3 : W3.heap[w.heap.size]? = some (.deferred (some [])) := (hown.chg.keep _ (by omega) hn.1).trans hk2
        have hrun := run_endRound (P := P) jump hl3
        obtain ⟨W4, hW4⟩ : ∃ W4, W3.putObj (w.heap.size + 1) (.loop (rec (if jump.isNone then .ready else .done) jump)) = W4 := ⟨_, rfl⟩
        have hlt3 : w.heap.size + 1 < W3.heap.size := (Array.getElem?_eq_some_iff.1 hl3).1
        have hc4 : Chg (fun k => k = w.heap.size + 1) W3 W4 := by rw [← hW4]; exact Chg.putObj (S := fun k => k = w.heap.size + 1) _ rfl _
        refine ⟨W4, ?_, ?_, ⟨?_, ?_, ?_⟩, hO'n, ?_, ?_, ?_⟩
        · rw [← hW4, hrun, hrec]
        · exact hc4.mono (fun j _ hj => by subst hj; exact ⟨by omega, hO'n.2⟩)
        · refine ((hc2.mono (fun j _ hj => .inr (.inr hj))).trans (hown.chg.mono (fun j _ hj => .inl hj))).trans (hc4.mono (fun j _ hj => .inr (.inr hj)))
        · rintro k (h | h | h)
          · rcases hown.grow k h with h | h
            · exact .inl (.inl h)
            · exact .inr (Nat.le_trans hc2.size h)
          · exact .inl (.inr (.inl h))
          · exact .inl (.inr (.inr h))
        · have hs4 := hc4.size
          rintro k (h | h | h)
          · have := hown.lt k h; omega
          · omega
          · omega
        · intro k h; have := hown.lt k h; have hs4 := hc4.size; omega
        · rw [← hW4]; exact World.putObj_heap_same hlt3
        · exact (hc4.keep _ (by omega) (by omega)).trans hk3
      rintro e a3 W3 hp
      cases e with
      | normal =>
        obtain ⟨O', hown, hi3⟩ := hp
        obtain ⟨W4, hrun, haw, hown4, hn4, hv4, hl4, hk4⟩ := fin none O' W3 hown
        exact ⟨_, W4, hrun, Z O', hown4, .inl ⟨rfl, O', rfl, hn4, hv4, hI _ _ _ _ hi3 haw, hl4, hk4⟩⟩
      | ret =>
        obtain ⟨O', hown, hi3⟩ := hp
        obtain ⟨W4, hrun, haw, hown4, hn4, hv4, hl4, hk4⟩ := fin (some .ret) O' W3 hown
        exact ⟨_, W4, hrun, Z O', hown4, .inr ⟨rfl, O', rfl, hn4, hv4, .ret, hIx _ _ _ _ _ hi3 haw, hl4, hk4⟩⟩
      | exit id =>
        obtain ⟨O', hown, hi3⟩ := hp
        obtain ⟨W4, hrun, haw, hown4, hn4, hv4, hl4, hk4⟩ := fin (some (.exit id)) O' W3 hown
        exact ⟨_, W4, hrun, Z O', hown4, .inr ⟨rfl, O', rfl, hn4, hv4, .exit id, hIx _ _ _ _ _ hi3 haw, hl4, hk4⟩⟩
      | goto t =>
        obtain ⟨O', hown, hi3⟩ := hp
        obtain ⟨W4, hrun, haw, hown4, hn4, hv4, hl4, hk4⟩ := fin (some (.goto t)) O' W3 hown
        exact ⟨_, W4, hrun, Z O', hown4, .inr ⟨rfl, O', rfl, hn4, hv4, .goto t, hIx _ _ _ _ _ hi3 haw, hl4, hk4⟩⟩
      | panic ch => exact hp.elim
      | outgrown => exact hp.elim
    | ret => exact he.elim
    | exit id => exact he.elim
    | goto t => exact he.elim
    | panic ch => exact he.elim
    | outgrown => exact he.elim
  · -- behind the iterator
    have fin : ∀ (W2 : World) (O1 : Nat → Prop) (st : LoopState) (pe : Option Code), st ≠ .busy → (¬ O1 w.heap.size ∧ ¬ O1 (w.heap.size + 1)) → W2.heap[w.heap.size + 1]? = some (.loop (rec st pe)) → W2.heap[w.heap.size]? = some (.deferred (some [])) →
        ∃ W4, (Instr.endLoop (w.heap.size + 1)).run P W2 = .ok pe W4 ∧ Away w.heap.size O1 W2 W4 ∧ W4.heap[w.heap.size]? = some (.deferred (some [])) := by
      intro W2 O1 st pe hst hn hl hk
      have hrun := run_endLoop (P := P) hl (by rw [hrec]; exact hst)
      have hlt : w.heap.size + 1 < W2.heap.size := (Array.getElem?_eq_some_iff.1 hl).1
      refine ⟨_, by rw [hrun, hrec], ?_, ?_⟩
      · exact Chg.putObj _ ⟨by omega, hn.2⟩ _
      · rw [World.putObj_heap_other (by omega)]; exact hk
    rintro e W2 ⟨⟨v, rfl⟩, O', (⟨O1, rfl, hn, hv, hi, hl, hk⟩ | ⟨i, hle, O1, rfl, hn, hv, c, hi, hl, hk⟩)⟩
    · obtain ⟨W4, hrun, haw, hk4⟩ := fin W2 O1 .ready none (by simp) hn hl hk
      exact ⟨none, W4, hrun, hdone _ O1 W4 (Nat.le_refl _) hn.1 (hI _ _ _ _ hi haw) (fun k hk => Nat.lt_of_lt_of_le (hv k hk) haw.size) hk4⟩
    · obtain ⟨W4, hrun, haw, hk4⟩ := fin W2 O1 .done (some c) (by simp) hn hl hk
      exact ⟨some c, W4, hrun, hstop _ c i O1 W4 (Nat.le_refl _) hn.1 hle (hIx _ _ _ _ _ hi haw) (fun k hk => Nat.lt_of_lt_of_le (hv k hk) haw.size) hk4⟩

end Go.Proofs.YtbebjpdbnpdpfaaDoor
