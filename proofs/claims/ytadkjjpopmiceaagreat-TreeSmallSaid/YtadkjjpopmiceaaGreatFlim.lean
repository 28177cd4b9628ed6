import Derived.Test.YtadkjjpopmiceaaGreatAplm
import Derived.Test.YtadkjjpopmiceaaGreatOwtm
namespace Go.Proofs.YtadkjjpopmiceaaGreat
open Go.RowKit Go.Lib

abbrev inc (x : Int) : List Value := [.int .i64 x]
theorem inc_len (x : Int) : (inc x).length = 1 := rfl
theorem inc_one (x : Int) : ∀ u ∈ inc x, u.oneCell' = true := by intro u hu; simp at hu; subst hu; rfl
def mk1I (k i : Nat) : Int := (1000003 * ((k : Int) + 7) + i : Int)
def mksI (k n : Nat) : List Int := (List.range n).map (mk1I k)
theorem mksI_len (k n : Nat) : (mksI k n).length = n := by simp [mksI]
theorem mksI_succ (k n : Nat) : mksI k (n + 1) = mksI k n ++ [mk1I k n] := by simp [mksI, List.range_succ]
theorem mksI_get {k n i : Nat} (h : i < n) : (mksI k n)[i]'(by rw [mksI_len]; exact h) = mk1I k i := by simp [mksI]
theorem mksI_take {k n m : Nat} (h : n ≤ m) : (mksI k m).take n = mksI k n := by
  simp [mksI, ← List.map_take, List.take_range, Nat.min_eq_left h]
theorem set_takeI {L : List Int} {k i : Nat} (hi : i < L.length) (h : L.take i = mksI k i) : (L.set i (mk1I k i)).take (i + 1) = mksI k (i + 1) := by
  rw [mksI_succ, List.take_succ_eq_append_getElem (by simpa using hi), List.take_set_of_le (Nat.le_refl _), h]
  simp
/-- the slices that a list of slices holds. -/
abbrev slAtI (vs : List Value) (j : Nat) : Value := vs.getD j (.slice none 0 0)
def RowI (B : Nat) (w : World) (v : Value) (n : Nat) (L : List Int) : Prop := w.ownsRow B 3 1 v n (L.flatMap inc)
theorem RowI.len {B : Nat} {w : World} {v : Value} {n : Nat} {L : List Int} (h : RowI B w v n L) : n = L.length := by
  have h0 := h.1
  rw [flat_len inc_len] at h0
  omega
theorem RowI.off {B : Nat} {w w' : World} {v : Value} {n : Nat} {L : List Int} {S : Nat → Prop} (h : RowI B w v n L) (hk : Keeps S w w') (hn : ∀ k, v.ownBlock = some k → ¬ S k) : RowI B w' v n L := hk.row h hn
theorem RowI.later {B : Nat} {w w' : World} {v : Value} {n : Nat} {L : List Int} (h : RowI B w v n L) (hb : Below w.heap.size w w') : RowI B w' v n L := h.off (Keeps.ofNew hb (fun _ => False)) (fun _ _ h => h)
/-- lists of slices: what lies in memory, each with a block of its own. -/
structure FsI (K : List (Nat × Obj)) (B : Nat) (w : World) (V : Value) (vs : List Value) (m : Nat) (nn : Nat → Nat) (F : Nat → List Int) : Prop where
  ls : w.ownsRow B 27 1 V m vs
  len : vs.length = m
  rw : ∀ j, j < m → RowI B w (slAtI vs j) (nn j) (F j)
  di : ∀ i j, i < m → j < m → i ≠ j → ∀ g, (slAtI vs i).ownBlock = some g → (slAtI vs j).ownBlock ≠ some g
  bw : B ≤ w.heap.size
  kn : ∀ q ∈ K, w.heap[q.1]? = some q.2 ∧ V.ownBlock ≠ some q.1 ∧ ∀ j, j < m → (slAtI vs j).ownBlock ≠ some q.1
theorem FsI.later {K : List (Nat × Obj)} {B : Nat} {w w' : World} {V : Value} {vs : List Value} {m : Nat} {nn : Nat → Nat} {F : Nat → List Int} (h : FsI K B w V vs m nn F) (hb : Below w.heap.size w w') : FsI K B w' V vs m nn F :=
  ⟨(Keeps.ofNew hb (fun _ => False)).row h.ls (fun _ _ h => h), h.len, fun j hj => (h.rw j hj).later hb, h.di, Nat.le_trans h.bw hb.size, fun q hq => ⟨(hb.block _ (lt_of_block (h.kn q hq).1)).trans (h.kn q hq).1, (h.kn q hq).2⟩⟩
def updI (F : Nat → List Int) (k : Nat) (L : List Int) : Nat → List Int := fun j => if j = k then L else F j
/-- a row is written. -/
theorem FsI.set {K : List (Nat × Obj)} {B : Nat} {w w' : World} {V : Value} {vs : List Value} {m : Nat} {nn : Nat → Nat} {F : Nat → List Int} {k : Nat} {L : List Int} (h : FsI K B w V vs m nn F) (hk : k < m) {g : Nat} (hg : (slAtI vs k).ownBlock = some g)
    (hK : Keeps (fun b => b = g) w w') (hn : RowI B w' (slAtI vs k) (nn k) L) : FsI K B w' V vs m nn (updI F k L) := by
  have hgr : ∃ cur, w.heap[g]? = some (.cells cur 3 (0, 0)) := by
    rcases (h.rw k hk).2 with ⟨h1, -⟩ | ⟨g', cap, cur, h1, -, h2, -⟩
    · rw [h1] at hg
      simp [Value.ownBlock] at hg
    · rw [h1] at hg
      simp only [Value.ownBlock, Option.some.injEq] at hg
      subst hg
      exact ⟨cur, h2⟩
  obtain ⟨cur, hgb⟩ := hgr
  refine ⟨hK.row h.ls (fun b hb e => ?_), h.len, fun j hj => ?_, h.di, Nat.le_trans h.bw hK.size, fun q hq => ⟨hK.obj (h.kn q hq).1 (fun e => (h.kn q hq).2.2 k hk (by rw [hg, e])), (h.kn q hq).2⟩⟩
  · subst e
    exact own_ne' hgb (by decide) h.ls hb
  · unfold updI
    by_cases hjk : j = k
    · rw [if_pos hjk, hjk]; exact hn
    · rw [if_neg hjk]
      exact (h.rw j hj).off hK (fun b hb e => by subst e; exact h.di j k hj hk hjk _ hb hg)
theorem slAtI_get {vs : List Value} {m j : Nat} (hl : vs.length = m) (hj : j < m) : vs[j]'(by omega) = slAtI vs j := by simp [slAtI, hl, hj]
/-- a slice that a list of slices holds, read. -/
theorem FsI.cell {B : Nat} {w : World} {a : Option Addr} {m cap : Nat} {vs : List Value} (h : w.ownsRow B 27 1 (.slice a m cap) m vs) (hl : vs.length = m) {j : Nat} (hj : j < m) : ∃ g, a = some ⟨g, 0, none⟩ ∧ g < w.heap.size ∧ w.cell? ⟨g, j, none⟩ = some (slAtI vs j) ∧ w.frozen? ⟨g, j, none⟩ = false := by
  rcases h.2 with ⟨-, h1⟩ | ⟨g, cap', cur, h1, -⟩
  · omega
  · simp only [Value.slice.injEq] at h1
    obtain ⟨rfl, -, rfl⟩ := h1
    have e : vs = vs.flatMap fun x => [x] := by simp
    have h2 := h
    rw [e] at h2
    have := own_cellC (C := 1) (fun _ => rfl) h2 j (by omega) 0 (by omega)
    refine ⟨g, rfl, (h.lt g rfl).2, ?_, ?_⟩
    · have h3 := this.1
      rw [Nat.mul_one, Nat.add_zero, slAtI_get hl hj] at h3
      simpa using h3
    · have h3 := this.2
      simpa using h3
end Go.Proofs.YtadkjjpopmiceaaGreat
