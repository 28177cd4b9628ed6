/-
  Lists of numbers that are lent, looked at again, written over.
-/
import Derived.Test.YtkimkghldilliaaKeep
import Derived.SizedLaws
namespace Go.Proofs.Ytkimkghldilliaa
open Go.RowKit

theorem Try.infoInt : (Try.prog.info? 3).map (fun i => (i.zero, i.size, i.bytes)) = some (some (.int .i64 0), 1, 8) := by kernel_rfl

abbrev iv (zs : List Int) : List Value := zs.map (Value.int .i64)
def imk (t : List Int) (k : Nat) : List Int := t ++ (List.range k).map fun i : Nat => 8000024 + (i : Int)
theorem imk_succ (t : List Int) (k : Nat) : iv (imk t (k + 1)) = iv (imk t k) ++ [.int .i64 (8000024 + (k : Int))] := by
  simp [imk, List.range_succ]
theorem imk_len (t : List Int) (k : Nat) : (imk t k).length = t.length + k := by simp [imk]
theorem iv_oneCell (t : List Int) : ∀ u ∈ iv t, u.oneCell' = true := by
  intro u hu
  obtain ⟨_, _, rfl⟩ := List.mem_map.1 hu
  rfl

/-- the list of numbers that was lent: its block. -/
def ILentAt (w : World) (g : Nat) (t : List Int) : Prop := w.heap[g]? = some (.cells (iv (imk t 12)).toArray 3 (0, 0))

theorem ilent_of {w : World} {base g n : Nat} {t : List Int} (hn : n = t.length) (h : w.ownsRow base 3 1 (.slice (some ⟨g, 0, none⟩) (n + 12) (n + 12)) (n + 12) (iv (imk t 12))) : ILentAt w g t := by
  rcases h.2 with ⟨h0, _⟩ | ⟨g', cap, cur, hv, _, hg, _, _, hs, ht⟩
  · simp at h0
  · simp only [Value.slice.injEq, Option.some.injEq, Addr.mk.injEq, and_true, true_and] at hv
    obtain ⟨rfl, rfl⟩ := hv
    unfold ILentAt
    rw [hg, ← ht]
    congr 2
    rw [List.take_of_length_le (by simp [hs])]

theorem ILentAt.cell {w : World} {g : Nat} {t : List Int} (h : ILentAt w g t) (j : Nat) (hj : j < t.length + 12) : w.cell? ⟨g, j, none⟩ = some (.int .i64 ((imk t 12)[j]'(by rw [imk_len]; exact hj))) := by
  have hl : j < (imk t 12).length := by rw [imk_len]; exact hj
  rw [(block_cell' h j).1]
  simp [hl]
theorem ILentAt.cells {w : World} {g : Nat} {t : List Int} (h : ILentAt w g t) (hl : t.length ≤ 1000000) : CellsAt w (.slice (some ⟨g, 0, none⟩) t.length (t.length + 12)) (iv t) := by
  refine ⟨_, g, 0, t.length + 12, by simp, by simp, by unfold maxLen; omega, fun h => by simp at h, fun _ => rfl, iv_oneCell t, fun k hk => ?_⟩
  simp only [List.length_map] at hk
  simp only [Nat.zero_add]
  rw [h.cell k (by omega)]
  simp only [imk, List.getElem_map]
  rw [List.getElem_append_left]
theorem ILentAt.later {w w' : World} {g : Nat} {t : List Int} (h : ILentAt w g t) (hb : Below w.heap.size w w') : ILentAt w' g t := by
  unfold ILentAt at *
  rw [hb.block g (lt_of_block h), h]

open Go.ChangeShapes Go.WideShapes Go.ChangeAt in
/-- an argument that is a list of numbers; its size. -/
theorem open_intl {H : Type} {enc : TypeId × Value → H} {P : Program} {W : World} {base : Nat} {t e : TypeId} {v : Value} {d : DataW H} {p : List MemPlace}
    (ht : P.underlying t = some (.slice e)) (he : P.underlying e = some (.int .i64)) (hc : P.cellsOf e = 1) (hby : P.bytesOf e = 8)
    (hval : Value.okWide P W .any base t v) (h : DataW.Trod enc P W 0 (fun _ => true) true t v d p) :
    ∃ zs : List Int, CellsAt W v (iv zs) ∧ (∀ z ∈ zs, (Lit.int .i64 z).wf = true) ∧ ∀ (ts : List TypeId) (ds : List (DataW H)) (j : Nat), (DataW.weightsEach P ts ds).all (· ≤ reachBytes) = true → ts[j]? = some t → ds[j]? = some d → zs.length ≤ 17592186044416 := by
  obtain ⟨a0, len, cap, rfl⟩ := okWide_slice ht hval
  obtain ⟨fuel, hf⟩ := h
  rcases open_ints ht he hc hf with ⟨hcs, _⟩ | ⟨a, len', cap', zs, hcs, _, hl, hm, hz, hx, hcell, hwz⟩
  · simp [Value.cells] at hcs
    obtain ⟨rfl, rfl, rfl⟩ := hcs
    exact ⟨[], ⟨none, 0, 0, 0, rfl, Nat.le_refl _, by unfold maxLen; omega, fun _ => ⟨rfl, rfl⟩, fun h => by simp at h, by simp, fun k hk => by simp at hk⟩, by simp, fun _ _ _ _ _ _ => by simp⟩
  · simp [Value.cells] at hcs
    obtain ⟨rfl, rfl, rfl⟩ := hcs
    simp only [if_true] at hz
    simp only [Prod.mk.injEq] at hx
    obtain ⟨rfl, rfl⟩ := hx
    have hlen : (zs.take len).length = len := by simp; omega
    have hspot : 0 < zs.length → a.spot = none := by
      intro hp
      cases hs : a.spot with
      | none => rfl
      | some s =>
        have h0 := hcell 0 hp
        simp [Addr.add, World.cell?, hs] at h0
        split at h0 <;> simp at h0
    refine ⟨zs.take len, ⟨some a, a.block, a.off, cap, by rw [List.length_map, hlen], by rw [List.length_map, hlen]; exact hl, hm, fun h => by simp at h, ?_, iv_oneCell _, fun k hk => ?_⟩, fun z hzm => hwz z (List.mem_of_mem_take hzm), ?_⟩
    · intro hp
      rw [List.length_map, hlen] at hp
      have := hspot (by omega)
      obtain ⟨b, off, sp⟩ := a
      simp only at this
      subst this
      rfl
    · rw [List.length_map, hlen] at hk
      have hck := hcell k (by omega)
      have := hspot (by omega)
      obtain ⟨b, off, sp⟩ := a
      simp only at this
      subst this
      have hadd : (⟨b, off, none⟩ : Addr).add k = ⟨b, off + k, none⟩ := by
        unfold Addr.add; split
        · simp_all
        · rfl
      rw [hadd] at hck
      rw [hck]
      simp [show k < zs.length by omega]
    · intro ts ds j hsz h1 h2
      have := sized_slice hsz h1 h2 ht
      rw [hby] at this
      simp only [lits, List.length_map, List.length_take, List.length_drop, reachBytes] at this
      rw [hlen]
      omega

end Go.Proofs.Ytkimkghldilliaa
