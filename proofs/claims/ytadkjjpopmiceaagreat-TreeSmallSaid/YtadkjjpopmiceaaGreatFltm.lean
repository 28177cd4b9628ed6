import Derived.Test.YtadkjjpopmiceaaGreatAplm
import Derived.Test.YtadkjjpopmiceaaGreatOwtm
namespace Go.Proofs.YtadkjjpopmiceaaGreat
open Go.RowKit Go.Lib

def mk1 (k i : Nat) : Tw := (⟨1000003 * ((k : Int) + 7) + i, 0, 0, 0, 0⟩ : Tw)
def mks (k n : Nat) : List Tw := (List.range n).map (mk1 k)
theorem mks_len (k n : Nat) : (mks k n).length = n := by simp [mks]
theorem mks_succ (k n : Nat) : mks k (n + 1) = mks k n ++ [mk1 k n] := by simp [mks, List.range_succ]
theorem mks_get {k n i : Nat} (h : i < n) : (mks k n)[i]'(by rw [mks_len]; exact h) = mk1 k i := by simp [mks]
theorem mks_take {k n m : Nat} (h : n ≤ m) : (mks k m).take n = mks k n := by
  simp [mks, ← List.map_take, List.take_range, Nat.min_eq_left h]
theorem set_take {L : List Tw} {k i : Nat} (hi : i < L.length) (h : L.take i = mks k i) : (L.set i (mk1 k i)).take (i + 1) = mks k (i + 1) := by
  rw [mks_succ, List.take_succ_eq_append_getElem (by simpa using hi), List.take_set_of_le (Nat.le_refl _), h]
  simp
/-- the slices that a list of slices holds. -/
abbrev slAt (vs : List Value) (j : Nat) : Value := vs.getD j (.slice none 0 0)
def Row (B : Nat) (w : World) (v : Value) (n : Nat) (L : List Tw) : Prop := w.ownsRow B 45 5 v n (L.flatMap twc)
theorem Row.len {B : Nat} {w : World} {v : Value} {n : Nat} {L : List Tw} (h : Row B w v n L) : n = L.length := by
  have h0 := h.1
  rw [flat_len twc_len] at h0
  omega
theorem Row.off {B : Nat} {w w' : World} {v : Value} {n : Nat} {L : List Tw} {S : Nat → Prop} (h : Row B w v n L) (hk : Keeps S w w') (hn : ∀ k, v.ownBlock = some k → ¬ S k) : Row B w' v n L := hk.row h hn
theorem Row.later {B : Nat} {w w' : World} {v : Value} {n : Nat} {L : List Tw} (h : Row B w v n L) (hb : Below w.heap.size w w') : Row B w' v n L := h.off (Keeps.ofNew hb (fun _ => False)) (fun _ _ h => h)
/-- lists of slices: what lies in memory, each with a block of its own. -/
structure Fs (K : List (Nat × Obj)) (B : Nat) (w : World) (V : Value) (vs : List Value) (m : Nat) (nn : Nat → Nat) (F : Nat → List Tw) : Prop where
  ls : w.ownsRow B 22 1 V m vs
  len : vs.length = m
  rw : ∀ j, j < m → Row B w (slAt vs j) (nn j) (F j)
  di : ∀ i j, i < m → j < m → i ≠ j → ∀ g, (slAt vs i).ownBlock = some g → (slAt vs j).ownBlock ≠ some g
  bw : B ≤ w.heap.size
  kn : ∀ q ∈ K, w.heap[q.1]? = some q.2 ∧ V.ownBlock ≠ some q.1 ∧ ∀ j, j < m → (slAt vs j).ownBlock ≠ some q.1
theorem Fs.later {K : List (Nat × Obj)} {B : Nat} {w w' : World} {V : Value} {vs : List Value} {m : Nat} {nn : Nat → Nat} {F : Nat → List Tw} (h : Fs K B w V vs m nn F) (hb : Below w.heap.size w w') : Fs K B w' V vs m nn F :=
  ⟨(Keeps.ofNew hb (fun _ => False)).row h.ls (fun _ _ h => h), h.len, fun j hj => (h.rw j hj).later hb, h.di, Nat.le_trans h.bw hb.size, fun q hq => ⟨(hb.block _ (lt_of_block (h.kn q hq).1)).trans (h.kn q hq).1, (h.kn q hq).2⟩⟩
def upd (F : Nat → List Tw) (k : Nat) (L : List Tw) : Nat → List Tw := fun j => if j = k then L else F j
/-- a row is written. -/
theorem Fs.set {K : List (Nat × Obj)} {B : Nat} {w w' : World} {V : Value} {vs : List Value} {m : Nat} {nn : Nat → Nat} {F : Nat → List Tw} {k : Nat} {L : List Tw} (h : Fs K B w V vs m nn F) (hk : k < m) {g : Nat} (hg : (slAt vs k).ownBlock = some g)
    (hK : Keeps (fun b => b = g) w w') (hn : Row B w' (slAt vs k) (nn k) L) : Fs K B w' V vs m nn (upd F k L) := by
  have hgr : ∃ cur, w.heap[g]? = some (.cells cur 45 (0, 0)) := by
    rcases (h.rw k hk).2 with ⟨h1, -⟩ | ⟨g', cap, cur, h1, -, h2, -⟩
    · rw [h1] at hg
      simp [Value.ownBlock] at hg
    · rw [h1] at hg
      simp only [Value.ownBlock, Option.some.injEq] at hg
      subst hg
      exact ⟨cur, h2⟩
  obtain ⟨cur, hgb⟩ := hgr
  refine ⟨hK.row h.ls (fun b hb e => ?_), h.len, fun j hj => ?_, h.di, Nat.le_trans h.bw hK.size, fun q hq => ⟨hK.obj (h.kn q hq).1 (fun e => (h.kn q hq).2.2 k hk (by rw [hg, e])), (h.kn q hq).2⟩⟩
  · subst e
    exact own_ne' hgb (by decide) h.ls hb
  · unfold upd
    by_cases hjk : j = k
    · rw [if_pos hjk, hjk]; exact hn
    · rw [if_neg hjk]
      exact (h.rw j hj).off hK (fun b hb e => by subst e; exact h.di j k hj hk hjk _ hb hg)
theorem slAt_get {vs : List Value} {m j : Nat} (hl : vs.length = m) (hj : j < m) : vs[j]'(by omega) = slAt vs j := by simp [slAt, hl, hj]
/-- a slice that a list of slices holds, read. -/
theorem Fs.cell {B : Nat} {w : World} {a : Option Addr} {m cap : Nat} {vs : List Value} (h : w.ownsRow B 22 1 (.slice a m cap) m vs) (hl : vs.length = m) {j : Nat} (hj : j < m) : ∃ g, a = some ⟨g, 0, none⟩ ∧ g < w.heap.size ∧ w.cell? ⟨g, j, none⟩ = some (slAt vs j) ∧ w.frozen? ⟨g, j, none⟩ = false := by
  rcases h.2 with ⟨-, h1⟩ | ⟨g, cap', cur, h1, -⟩
  · omega
  · simp only [Value.slice.injEq] at h1
    obtain ⟨rfl, -, rfl⟩ := h1
    have e : vs = vs.flatMap fun x => [x] := by simp
    have h2 := h
    rw [e] at h2
    have := own_cellC (C := 1) (fun _ => rfl) h2 j (by omega) 0 (by omega)
    refine ⟨g, rfl, (h.lt g rfl).2, ?_, ?_⟩
    · have h3 := this.1
      rw [Nat.mul_one, Nat.add_zero, slAt_get hl hj] at h3
      simpa using h3
    · have h3 := this.2
      simpa using h3
end Go.Proofs.YtadkjjpopmiceaaGreat
