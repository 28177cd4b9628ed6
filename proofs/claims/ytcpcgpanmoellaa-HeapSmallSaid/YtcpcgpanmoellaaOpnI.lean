/-
  An argument that is a list of numbers, opened.
-/
import Derived.Test.YtcpcgpanmoellaaKeep
import Derived.SizedLaws
namespace Go.Proofs.Ytcpcgpanmoellaa
open Go.RowKit

abbrev iv (zs : List Int) : List Value := zs.map (Value.int .i64)
theorem iv_oneCell (t : List Int) : ∀ u ∈ iv t, u.oneCell' = true := by
  intro u hu
  obtain ⟨_, _, rfl⟩ := List.mem_map.1 hu
  rfl
open Go.ChangeShapes Go.WideShapes Go.ChangeAt in
/-- an argument that is a list of numbers; its size. -/
theorem open_intl {H : Type} {enc : TypeId × Value → H} {P : Program} {W : World} {base : Nat} {t e : TypeId} {v : Value} {d : DataW H} {p : List MemPlace}
    (ht : P.underlying t = some (.slice e)) (he : P.underlying e = some (.int .i64)) (hc : P.cellsOf e = 1) (hby : P.bytesOf e = 8)
    (hval : Value.okWide P W .any base t v) (h : DataW.Trod enc P W 0 (fun _ => true) true t v d p) :
    ∃ zs : List Int, CellsAt W v (iv zs) ∧ (∀ z ∈ zs, (Lit.int .i64 z).wf = true) ∧ ∀ (ts : List TypeId) (ds : List (DataW H)) (j : Nat), (DataW.weightsEach P ts ds).all (· ≤ reachBytes) = true → ts[j]? = some t → ds[j]? = some d → zs.length ≤ 17592186044416 := by
  obtain ⟨a0, len, cap, rfl⟩ := okWide_slice ht hval
  obtain ⟨fuel, hf⟩ := h
  rcases open_ints ht he hc hf with ⟨hcs, _⟩ | ⟨a, len', cap', zs, hcs, _, hl, hm, hz, hx, hcell, hwz⟩
  · simp [Value.cells] at hcs
    obtain ⟨rfl, rfl, rfl⟩ := hcs
    exact ⟨[], ⟨none, 0, 0, 0, rfl, Nat.le_refl _, by unfold maxLen; omega, fun _ => ⟨rfl, rfl⟩, fun h => by simp at h, by simp, fun k hk => by simp at hk⟩, by simp, fun _ _ _ _ _ _ => by simp⟩
  · simp [Value.cells] at hcs
    obtain ⟨rfl, rfl, rfl⟩ := hcs
    simp only [if_true] at hz
    simp only [Prod.mk.injEq] at hx
    obtain ⟨rfl, rfl⟩ := hx
    have hlen : (zs.take len).length = len := by simp; omega
    have hspot : 0 < zs.length → a.spot = none := by
      intro hp
      cases hs : a.spot with
      | none => rfl
      | some s =>
        have h0 := hcell 0 hp
        simp [Addr.add, World.cell?, hs] at h0
        split at h0 <;> simp at h0
    refine ⟨zs.take len, ⟨some a, a.block, a.off, cap, by rw [List.length_map, hlen], by rw [List.length_map, hlen]; exact hl, hm, fun h => by simp at h, ?_, iv_oneCell _, fun k hk => ?_⟩, fun z hzm => hwz z (List.mem_of_mem_take hzm), ?_⟩
    · intro hp
      rw [List.length_map, hlen] at hp
      have := hspot (by omega)
      obtain ⟨b, off, sp⟩ := a
      simp only at this
      subst this
      rfl
    · rw [List.length_map, hlen] at hk
      have hck := hcell k (by omega)
      have := hspot (by omega)
      obtain ⟨b, off, sp⟩ := a
      simp only at this
      subst this
      have hadd : (⟨b, off, none⟩ : Addr).add k = ⟨b, off + k, none⟩ := by
        unfold Addr.add; split
        · simp_all
        · rfl
      rw [hadd] at hck
      rw [hck]
      simp [show k < zs.length by omega]
    · intro ts ds j hsz h1 h2
      have := sized_slice hsz h1 h2 ht
      rw [hby] at this
      simp only [lits, List.length_map, List.length_take, List.length_drop, reachBytes] at this
      rw [hlen]
      omega

end Go.Proofs.Ytcpcgpanmoellaa
