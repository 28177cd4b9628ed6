import Derived.Test.YtpchjpmkkiopiaaGreatMmAm
namespace Go.Proofs.YtpchjpmkkiopiaaGreat
open Go.RowKit Go.Lib

/-- a slice of keys, read. -/
def KyAt (w : World) (v : Value) (S : List Ky) : Prop := RowsAt w 3 v (S.map kyc)
theorem KyAt.later {w w' : World} {v : Value} {S : List Ky} (h : KyAt w v S) (hb : Below w.heap.size w w') : KyAt w' v S := RowsAt.later h hb
theorem KyAt.val {w : World} {v : Value} {S : List Ky} (h : KyAt w v S) : ∃ ao cap, v = .slice ao S.length cap := by
  obtain ⟨ao, cap, h⟩ := RowsAt.val h
  exact ⟨ao, cap, by simpa using h⟩
theorem KyAt.cells {w : World} {ao : Option Addr} {n cap : Nat} {S : List Ky} (h : KyAt w (.slice ao n cap) S) : S.length ≤ cap ∧ cap ≤ maxLen ∧ ∀ i (hi : i < S.length), ∃ b off, ao = some ⟨b, off, none⟩ ∧ b < w.heap.size ∧
    w.cell? ⟨b, off + i * 3, none⟩ = some (.int .i64 S[i].rule) ∧ w.cell? ⟨b, off + i * 3 + 1, none⟩ = some (.int .i64 S[i].level) ∧ w.cell? ⟨b, off + i * 3 + 2, none⟩ = some (.int .i64 S[i].place) := by
  obtain ⟨ao', b, off, cap', he, hl, hm, hn, ha, _, hc⟩ := h
  simp only [Value.slice.injEq, List.length_map] at he hl hn ha hc
  obtain ⟨rfl, rfl, rfl⟩ := he
  refine ⟨hl, hm, fun i hi => ?_⟩
  obtain ⟨h1, h2⟩ := ha (by omega)
  refine ⟨b, off, h1, h2, ?_, ?_, ?_⟩
  · have := hc i hi 0 (by omega); simpa [kyc] using this
  · have := hc i hi 1 (by omega); simpa [kyc] using this
  · have := hc i hi 2 (by omega); simpa [kyc] using this
abbrev KyOwn (B : Nat) (w : World) (v : Value) (S : List Ky) : Prop := w.ownsRow B 24 3 v S.length (S.flatMap kyc)
theorem KyOwn.at {B : Nat} {w : World} {v : Value} {S : List Ky} (h : KyOwn B w v S) : KyAt w v S := own_rows kyc_len rfl h
theorem mem_take_snoc {S : List Ky} {k : Nat} (hk : k < S.length) (x : Ky) : x ∈ S.take (k + 1) ↔ x ∈ S.take k ∨ S[k] = x := by
  rw [List.take_succ_eq_append_getElem hk, List.mem_append, List.mem_singleton]
  exact ⟨fun h => h.imp id Eq.symm, fun h => h.imp id Eq.symm⟩
end Go.Proofs.YtpchjpmkkiopiaaGreat
namespace Go.Proofs.YtpchjpmkkiopiaaGreat
open Go.RowKit Go.Lib

def outK (S : List Ky) (x : Ky) : List Ky := S.filter fun y => decide (y ≠ x)
theorem outK_snoc {S : List Ky} {k : Nat} (hk : k < S.length) (x : Ky) : outK (S.take (k + 1)) x = outK (S.take k) x ++ if S[k] ≠ x then [S[k]] else [] := by
  unfold outK
  rw [List.take_succ_eq_append_getElem hk, List.filter_append]
  by_cases h : S[k] = x <;> simp [h]
theorem outK_len (S : List Ky) (x : Ky) : (outK S x).length ≤ S.length := List.length_filter_le _ _
end Go.Proofs.YtpchjpmkkiopiaaGreat
