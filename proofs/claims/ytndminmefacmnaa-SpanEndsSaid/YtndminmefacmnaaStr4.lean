/-
  As range_strong4, but the iterator may write some blocks of its own that lay there ahead of the loop.
-/
import Derived.Test.YtndminmefacmnaaStrong
namespace Go.Proofs.Ytndminmefacmnaa
open Go.RowKit Go.Shelf

/-- an iterator's word: as SeqS, but it may write the blocks X. -/
def SeqX {α : Type} (X : Nat → Prop) (n : Nat) (P : Program) (g : Nat) (lb : Array Value) (encs : α → Array Value) (Kp : World → World → Prop) (S Sp : List α → Prop) (N : Nat) (w : World) : Prop :=
  ∀ (l : Nat) (J Jx : List α → World → Prop) (W : World), Below w.heap.size w W → w.heap.size + 2 ≤ W.heap.size → OwnFrom W.heap.size J → OwnFrom W.heap.size Jx → (∀ pre A B, Keeps X A B → J pre A → J pre B) →
    (∀ pre x W1, J pre W1 → pre.length < N → YieldAt Fence.wide (n - 1) P l (encs x) W1 fun e W' =>
      (e = .returned (.bool true) ∧ J (pre ++ [x]) W' ∧ Kp W1 W') ∨ (e = .returned (.bool false) ∧ Jx (pre ++ [x]) W' ∧ Kp W1 W')) →
    J [] W →
    CallsIn Fence.wide n P g (#[.func (.yield l) #[] #[]] ++ lb) W fun e W' => (∃ v, e = .returned v) ∧ ((∃ xs, S xs ∧ J xs W') ∨ (∃ pre, Sp pre ∧ Jx pre W'))
theorem range_strong4 {α : Type} {P : Program} {g : Operand} {ps : Array Tmp} {assign body : Code} {Q : Exit → Act → World → Prop} {a : Act} {w : World} {n : Nat} (h1 : 1 ≤ n)
    {gf : Nat} {lb : Array Value} (hg : a.eval g = .func (.func gf) #[] lb) (eg : ∀ args w, (callFunc gf args).run P w = .ok (.enter gf args) w)
    {encs : α → Array Value} {Kp : World → World → Prop} {S Sp : List α → Prop} {N : Nat} {X : Nat → Prop} (hX : ∀ k, X k → k < w.heap.size) (hseq : SeqX X (n - 1) P gf lb encs Kp S Sp N w)
    (hKt : ∀ {A B C : World}, Kp A B → Kp B C → Kp A C) (hKb : ∀ (W : World) (o o' : Obj), W.heap[w.heap.size + 1]? = some o → o.isCells = false → Kp W (W.putObj (w.heap.size + 1) o')) (hps : ∀ x, (encs x).size = ps.size)
    (I : List α → World → Prop) (Ix : Code → List α → World → Prop) (hI : OwnFrom w.heap.size I) (hIX : ∀ pre A B, Keeps X A B → I pre A → I pre B) (hIx : ∀ c, OwnFrom w.heap.size (Ix c)) (h0 : I [] w) (Ax : α → Act → World → Prop) (hAx : ∀ x a', OwnFrom w.heap.size (fun (_ : Unit) W => Ax x a' W))
    (hassign : ∀ (l : Nat) (pre : List α) (x : α) (W : World) (K : Act → World → Prop), I pre W → (∀ a' W', KeepsFrom w.heap.size W W' → Kp W W' → I pre W' → Ax x a' W' → K a' W') →
      assign.wpIn (Fence.wide.inRound l) (n - 1 - 1) P (Exit.then K (fun _ _ _ => False)) { tmps := (ps.zip (encs x)).foldl (fun t (p, v) => t.setIfInBounds p v) a.tmps, defers := [] } W)
    (hbody : ∀ (l : Nat) (pre : List α) (x : α) (a' : Act) (W : World), w.heap.size ≤ l → I pre W → Ax x a' W → pre.length < N → body.wpIn (Fence.wide.inRound l) (n - 1 - 1) P (postS w.heap.size Kp I Ix (pre ++ [x]) W) a' W)
    (hdone : ∀ (D : Nat) (xs : List α) (W : World), w.heap.size ≤ D → S xs → I xs W → W.heap[D]? = some (.deferred (some [])) → Q .normal { a with defers := { target := .collected D, args := #[] } :: a.defers } W)
    (hstop : ∀ (D : Nat) (c : Code) (pre : List α) (W : World), w.heap.size ≤ D → Sp pre → Ix c pre W → W.heap[D]? = some (.deferred (some [])) → c.wpIn Fence.wide n P Q { a with defers := { target := .collected D, args := #[] } :: a.defers } W) :
    (Code.rangeFunc g ps assign body).wpIn Fence.wide n P Q a w := by
  refine wpIn_rangeFunc fun fn hfn => ?_
  have hW : ∃ W1, W1 = (w.alloc (.deferred (some []))).alloc (.loop (recAt fn a.tmps ps assign body w.heap.size .ready none)) := ⟨_, rfl⟩
  obtain ⟨W1, hW1⟩ := hW
  have hsz : W1.heap.size = w.heap.size + 2 := by rw [hW1]; simp
  have hrec0 : W1.heap[w.heap.size + 1]? = some (.loop (recAt fn a.tmps ps assign body w.heap.size .ready none)) := by
    rw [hW1]; have := World.alloc_heap_new (w.alloc (.deferred (some []))) (.loop (recAt fn a.tmps ps assign body w.heap.size .ready none)); rwa [World.size_alloc] at this
  have hdef0 : W1.heap[w.heap.size]? = some (.deferred (some [])) := by
    rw [hW1]; exact (Below.heap_alloc _ _ _ (by simp)).trans (World.alloc_heap_new w _)
  have hI0 : I [] W1 := by rw [hW1]; exact hI.alloc _ (hI.alloc _ h0)
  have hbel : Below w.heap.size w W1 := by rw [hW1]; exact ((Below.refl _ w).alloc (Nat.le_refl _) _).alloc (by simp) _
  refine ⟨w.heap.size + 1, [{ target := .collected w.heap.size, args := #[] }], W1, { target := .fn (.func gf) lb, args := #[.func (.yield (w.heap.size + 1)) #[] #[]] }, W1, gf,
    #[.func (.yield (w.heap.size + 1)) #[] #[]] ++ lb, W1, by rw [hW1]; exact run_enterLoop_outer _ _ _ _ _, ?_, fun f' _ => trivial, by simp [invoke, go_sem, eg], fun _ => h1, ?_⟩
  · simp only [resolve, hg]
    simp [go_sem]
  have keep : ∀ {A B : World} {row : Option Nat} {k : Nat} {o : Obj}, A.grownBy B row → (∀ r, row = some r → W1.heap.size ≤ r ∧ ∃ o : Obj, A.heap[r]? = some o ∧ o.isCells = false) → k < W1.heap.size → A.heap[k]? = some o → B.heap[k]? = some o :=
    fun hg' hr hk ho => (hg'.block _ (Array.getElem?_eq_some_iff.1 ho).1 (fun e => by have := (hr _ e.symm).1; omega)).trans ho
  have rows : ∀ {A : World} {row : Option Nat}, (∀ r, row = some r → W1.heap.size ≤ r ∧ ∃ o : Obj, A.heap[r]? = some o ∧ o.isCells = false) → (∀ r, row = some r → w.heap.size ≤ r ∧ ∃ o : Obj, A.heap[r]? = some o ∧ o.isCells = false) :=
    fun hr r e => ⟨by have := (hr r e).1; omega, (hr r e).2⟩
  refine (hseq (w.heap.size + 1)
    (fun pre W => I pre W ∧ W.heap[w.heap.size + 1]? = some (.loop (recAt fn a.tmps ps assign body w.heap.size .ready none)) ∧ W.heap[w.heap.size]? = some (.deferred (some [])))
    (fun pre W => ∃ c, Ix c pre W ∧ W.heap[w.heap.size + 1]? = some (.loop (recAt fn a.tmps ps assign body w.heap.size .done (some c))) ∧ W.heap[w.heap.size]? = some (.deferred (some [])))
    W1 hbel (by omega)
    (fun s A B row hs hg' hr => ⟨hI s A B row hs.1 hg' (rows hr), keep hg' hr (by omega) hs.2.1, keep hg' hr (by omega) hs.2.2⟩)
    (fun s A B row hs hg' hr => by
      obtain ⟨c, hc, hl, hk⟩ := hs
      exact ⟨c, hIx c s A B row hc hg' (rows hr), keep hg' hr (by omega) hl, keep hg' hr (by omega) hk⟩)
    (fun pre A B hk hs => ⟨hIX pre A B hk hs.1, hk.obj hs.2.1 (fun e => by have := hX _ e; omega), hk.obj hs.2.2 (fun e => by have := hX _ e; omega)⟩)
    ?_ ⟨hI0, hrec0, hdef0⟩).mono ?_
  · rintro pre x W0 ⟨hi0, hl0, hk0⟩ hlen
    refine ⟨fn, _, assign, body, run_yield (P := P) (args := encs x) hl0 (hps x), roundIn_of_wpIn hfn (hassign _ pre x W0 _ hi0 fun a' W hkf hkp0 hi hax => ⟨_, run_beginRound (hkf.same _ _ (by omega) hl0 rfl) rfl, ?_⟩)⟩
    have hl := hkf.same _ _ (by omega) hl0 rfl
    have hk := hkf.same _ _ (Nat.le_refl _) hk0 rfl
    have hlt : w.heap.size + 1 < W.heap.size := (Array.getElem?_eq_some_iff.1 hl).1
    obtain ⟨Wb, hWb⟩ : ∃ Wb, Wb = W.putObj (w.heap.size + 1) (.loop (recAt fn a.tmps ps assign body w.heap.size .busy none)) := ⟨_, rfl⟩
    have hlb : Wb.heap[w.heap.size + 1]? = some (.loop (recAt fn a.tmps ps assign body w.heap.size .busy none)) := by rw [hWb]; exact World.putObj_heap_same hlt
    have hkb : Wb.heap[w.heap.size]? = some (.deferred (some [])) := by rw [hWb]; exact (World.putObj_heap_other (by omega)).trans hk
    have hKw : Kp W0 Wb := by rw [hWb]; exact hKt hkp0 (hKb _ _ _ hl rfl)
    have haxb : Ax x a' Wb := by rw [hWb]; exact (hAx x a').putObj (s := ()) _ hax (by omega) hl rfl
    have hib : I pre Wb := by rw [hWb]; exact hI.putObj _ hi (by omega) hl rfl
    show body.wpIn _ _ _ _ _ (W.putObj (w.heap.size + 1) (.loop (recAt fn a.tmps ps assign body w.heap.size .busy none)))
    rw [← hWb]
    refine wpIn_mono (hbody _ pre x a' Wb (by omega) hib haxb hlen) ?_
    have out : ∀ (j : Option Code) (W3 : World), KeepsFrom w.heap.size Wb W3 →
        (Instr.endRound (w.heap.size + 1) j).run P W3 = .ok (.bool j.isNone) (W3.putObj (w.heap.size + 1) (.loop (recAt fn a.tmps ps assign body w.heap.size (if j.isNone then .ready else .done) j))) ∧
        W3.heap[w.heap.size + 1]? = some (.loop (recAt fn a.tmps ps assign body w.heap.size .busy none)) ∧
        (W3.putObj (w.heap.size + 1) (.loop (recAt fn a.tmps ps assign body w.heap.size (if j.isNone then .ready else .done) j))).heap[w.heap.size + 1]? = some (.loop (recAt fn a.tmps ps assign body w.heap.size (if j.isNone then .ready else .done) j)) ∧
        (W3.putObj (w.heap.size + 1) (.loop (recAt fn a.tmps ps assign body w.heap.size (if j.isNone then .ready else .done) j))).heap[w.heap.size]? = some (.deferred (some [])) := fun j W3 hk3 => by
      have hl3 := hk3.same _ _ (by omega) hlb rfl
      exact ⟨run_endRound (P := P) j hl3, hl3, World.putObj_heap_same (Array.getElem?_eq_some_iff.1 hl3).1, (World.putObj_heap_other (by omega)).trans (hk3.same _ _ (Nat.le_refl _) hkb rfl)⟩
    have leave : ∀ (c : Code) (W3 : World), KeepsFrom w.heap.size Wb W3 → Kp Wb W3 → Ix c (pre ++ [x]) W3 → ∃ v W4, (Instr.endRound (w.heap.size + 1) (some c)).run P W3 = .ok v W4 ∧ v = .bool false ∧ Kp W0 W4 ∧ ∃ c, Ix c (pre ++ [x]) W4 ∧ W4.heap[w.heap.size + 1]? = some (.loop (recAt fn a.tmps ps assign body w.heap.size .done (some c))) ∧ W4.heap[w.heap.size]? = some (.deferred (some [])) := fun c W3 hk3 hkp3 hi3 => by
      obtain ⟨hr, hl3, hl4, hk4⟩ := out (some c) W3 hk3
      exact ⟨_, _, hr, rfl, hKt (hKt hKw hkp3) (hKb _ _ _ hl3 rfl), c, (hIx c).putObj _ hi3 (by omega) hl3 rfl, hl4, hk4⟩
    rintro e a3 W3 hp
    cases e with
    | normal =>
      obtain ⟨hk3, hkp3, hi3⟩ := hp
      obtain ⟨hr, hl3, hl4, hk4⟩ := out none W3 hk3
      exact ⟨_, _, hr, .inl ⟨rfl, ⟨hI.putObj _ hi3 (by omega) hl3 rfl, hl4, hk4⟩, hKt (hKt hKw hkp3) (hKb _ _ _ hl3 rfl)⟩⟩
    | ret =>
      obtain ⟨v, W4, hr, rfl, hkp4, h⟩ := leave .ret W3 hp.1 hp.2.1 hp.2.2
      exact ⟨_, W4, hr, .inr ⟨rfl, h, hkp4⟩⟩
    | exit id =>
      obtain ⟨v, W4, hr, rfl, hkp4, h⟩ := leave (.exit id) W3 hp.1 hp.2.1 hp.2.2
      exact ⟨_, W4, hr, .inr ⟨rfl, h, hkp4⟩⟩
    | goto t =>
      obtain ⟨v, W4, hr, rfl, hkp4, h⟩ := leave (.goto t) W3 hp.1 hp.2.1 hp.2.2
      exact ⟨_, W4, hr, .inr ⟨rfl, h, hkp4⟩⟩
    | panic ch => exact hp.elim
    | outgrown => exact hp.elim
  · rintro e W2 ⟨⟨v, rfl⟩, (⟨xs, hS, hi, hl, hk⟩ | ⟨pre, hSp, c, hi, hl, hk⟩)⟩
    · exact ⟨none, _, run_endLoop (P := P) hl (by simp), hdone _ xs _ (Nat.le_refl _) hS (hI.putObj _ hi (by omega) hl rfl) ((World.putObj_heap_other (by omega)).trans hk)⟩
    · exact ⟨some c, _, run_endLoop (P := P) hl (by simp), hstop _ c pre _ (Nat.le_refl _) hSp ((hIx c).putObj _ hi (by omega) hl rfl) ((World.putObj_heap_other (by omega)).trans hk)⟩
end Go.Proofs.Ytndminmefacmnaa
