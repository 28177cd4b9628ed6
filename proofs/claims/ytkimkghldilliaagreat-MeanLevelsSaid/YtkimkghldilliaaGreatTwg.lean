/-
  Lists of twigs.
-/
import Derived.Test.YtkimkghldilliaaGreatFlat
import Derived.Test.YtkimkghldilliaaGreatTrC
import Derived.SizedLaws
namespace Go.Proofs.YtkimkghldilliaaGreat
open Go.RowKit

theorem Tryz.infoTwig : (Tryz.prog.info? 50).map (fun i => (i.zero, i.size, i.bytes)) = some (some (.agg #[.int .i64 0, .int .i64 0, .int .i64 0, .int .i64 0, .int .i64 0]), 5, 40) := by kernel_rfl

def twc (t : Tw) : List Value := [.int .i64 t.rule, .int .i64 t.lev, .int .i64 t.fr, .int .i64 t.to, .int .i64 t.kids]
theorem twc_len (t : Tw) : (twc t).length = 5 := rfl
theorem twc_one (t : Tw) : ∀ u ∈ twc t, u.oneCell' = true := by intro u hu; simp [twc] at hu; rcases hu with rfl | rfl | rfl | rfl | rfl <;> rfl
abbrev tvs (l : List Tw) : List Value := l.flatMap twc
def tmk (t : List Tw) (k : Nat) : List Tw := t ++ (List.range k).map fun i : Nat => ⟨8000024 + (i : Int), 0, 0, 0, 0⟩
theorem tmk_len (t : List Tw) (k : Nat) : (tmk t k).length = t.length + k := by simp [tmk]
theorem tmk_succ (t : List Tw) (k : Nat) : tvs (tmk t (k + 1)) = tvs (tmk t k) ++ [.int .i64 (8000024 + (k : Int)), .int .i64 0, .int .i64 0, .int .i64 0, .int .i64 0] := by
  simp [tmk, List.range_succ, twc]
/-- a slice of twigs, read. -/
def TwAt (w : World) (v : Value) (l : List Tw) : Prop := RowsAt w 5 v (l.map twc)
theorem TwAt.later {w w' : World} {v : Value} {l : List Tw} (h : TwAt w v l) (hb : Below w.heap.size w w') : TwAt w' v l := RowsAt.later h hb
theorem TwAt.val {w : World} {v : Value} {l : List Tw} (h : TwAt w v l) : ∃ ao cap, v = .slice ao l.length cap := by
  obtain ⟨ao, cap, h⟩ := RowsAt.val h
  exact ⟨ao, cap, by simpa using h⟩
theorem TwAt.cells {w : World} {ao : Option Addr} {n cap : Nat} {l : List Tw} (h : TwAt w (.slice ao n cap) l) : n = l.length ∧ l.length ≤ cap ∧ cap ≤ maxLen ∧ (ao = none → n = 0 ∧ cap = 0) ∧ ∀ i (hi : i < l.length), ∃ b off, ao = some ⟨b, off, none⟩ ∧ b < w.heap.size ∧
    w.cell? ⟨b, off + i * 5, none⟩ = some (.int .i64 l[i].rule) ∧ w.cell? ⟨b, off + i * 5 + 1, none⟩ = some (.int .i64 l[i].lev) ∧ w.cell? ⟨b, off + i * 5 + 2, none⟩ = some (.int .i64 l[i].fr) ∧ w.cell? ⟨b, off + i * 5 + 3, none⟩ = some (.int .i64 l[i].to) ∧ w.cell? ⟨b, off + i * 5 + 4, none⟩ = some (.int .i64 l[i].kids) := by
  obtain ⟨ao', b, off, cap', he, hl, hm, hn, ha, _, hc⟩ := h
  simp only [Value.slice.injEq, List.length_map] at he hl hn ha hc
  obtain ⟨rfl, rfl, rfl⟩ := he
  refine ⟨rfl, hl, hm, hn, fun i hi => ⟨b, off, (ha (by omega)).1, (ha (by omega)).2, ?_⟩⟩
  have h := fun j hj => hc i hi j hj
  simp only [List.getElem_map] at h
  exact ⟨h 0 (by omega), h 1 (by omega), h 2 (by omega), h 3 (by omega), h 4 (by omega)⟩

def twv (t : Tw) : Value := .agg #[.int .i64 t.rule, .int .i64 t.lev, .int .i64 t.fr, .int .i64 t.to, .int .i64 t.kids]
theorem wf64 {n : Int} (h : -9223372036854775808 ≤ n ∧ n ≤ 9223372036854775807) : (Lit.int .i64 n).wf = true := by simp [Lit.wf, IntKind.min, IntKind.max, IntKind.signed, IntKind.bits]; omega

end Go.Proofs.YtkimkghldilliaaGreat
