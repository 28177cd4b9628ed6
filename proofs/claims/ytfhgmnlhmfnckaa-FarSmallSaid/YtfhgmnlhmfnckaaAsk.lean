/-
  Chapter far: rows of askings that come in; what is missed of them.
-/
import Derived.Test.YtfhgmnlhmfnckaaFarL
import Derived.Test.YtfhgmnlhmfnckaaSum
import Derived.Test.YtfhgmnlhmfnckaaOpen
namespace Go.Proofs.Ytfhgmnlhmfnckaa
open Go.RowKit Go.Lib Go.ChangeShapes Go.WideShapes Go.ChangeAt

/-- an asking's cells. -/
def askc (q : Miss) : List Value := [.int .u64 (word q.2 0), .int .u64 (word q.2 1), .int .u64 (word q.2 2), .int .u64 (word q.2 3), .int .i64 q.1]
/-- a slice of askings. -/
def AsksAt (w : World) (v : Value) (l : List Miss) : Prop := RowsAt w 5 v (l.map askc) ∧ ∀ q ∈ l, -9223372036854775808 ≤ q.1 ∧ q.1 ≤ 9223372036854775807
theorem AsksAt.later {w w' : World} {v : Value} {l : List Miss} (h : AsksAt w v l) (hb : Below w.heap.size w w') : AsksAt w' v l := ⟨h.1.later hb, h.2⟩
theorem AsksAt.cells {w : World} {v : Value} {l : List Miss} (h : AsksAt w v l) : ∃ ao cap, v = .slice ao l.length cap ∧ l.length ≤ cap ∧ cap ≤ maxLen ∧ ∀ i (hi : i < l.length), ∃ b off, ao = some ⟨b, off, none⟩ ∧ b < w.heap.size ∧
    w.cell? ⟨b, off + i * 5, none⟩ = some (.int .u64 (word l[i].2 0)) ∧ w.cell? ⟨b, off + i * 5 + 1, none⟩ = some (.int .u64 (word l[i].2 1)) ∧ w.cell? ⟨b, off + i * 5 + 2, none⟩ = some (.int .u64 (word l[i].2 2)) ∧
    w.cell? ⟨b, off + i * 5 + 3, none⟩ = some (.int .u64 (word l[i].2 3)) ∧ w.cell? ⟨b, off + i * 5 + 4, none⟩ = some (.int .i64 l[i].1) := by
  obtain ⟨⟨ao, b, off, cap, rfl, hl, hm, hn, ha, he, hc⟩, _⟩ := h
  simp only [List.length_map] at hl ha hn hc ⊢
  refine ⟨ao, cap, rfl, hl, hm, fun i hi => ⟨b, off, (ha (by omega)).1, (ha (by omega)).2, ?_⟩⟩
  have h := fun j hj => hc i hi j hj
  simp only [List.getElem_map] at h
  refine ⟨?_, h 1 (by omega), h 2 (by omega), h 3 (by omega), h 4 (by omega)⟩
  exact h 0 (by omega)

theorem wf_u64 {n : Int} (h : (Lit.int .u64 n).wf = true) : ∃ m : Nat, n = m ∧ m < 18446744073709551616 := by
  have : 0 ≤ n ∧ n ≤ 18446744073709551615 := by simpa [Lit.wf, IntKind.min, IntKind.max, IntKind.signed, IntKind.bits] using h
  exact ⟨n.toNat, by omega, by omega⟩
theorem wf_i64 {n : Int} (h : (Lit.int .i64 n).wf = true) : -9223372036854775808 ≤ n ∧ n ≤ 9223372036854775807 := by
  simpa [Lit.wf, IntKind.min, IntKind.max, IntKind.signed, IntKind.bits] using h
theorem cls_of_four {a b c d : Int} (ha : (Lit.int .u64 a).wf = true) (hb : (Lit.int .u64 b).wf = true) (hc : (Lit.int .u64 c).wf = true) (hd : (Lit.int .u64 d).wf = true) :
    ∃ s, a = word s 0 ∧ b = word s 1 ∧ c = word s 2 ∧ d = word s 3 := by
  obtain ⟨a', rfl, ha'⟩ := wf_u64 ha
  obtain ⟨b', rfl, hb'⟩ := wf_u64 hb
  obtain ⟨c', rfl, hc'⟩ := wf_u64 hc
  obtain ⟨d', rfl, hd'⟩ := wf_u64 hd
  obtain ⟨s, hs⟩ := words_cl a' b' c' d' ha' hb' hc' hd'
  simp only [clc, Array.mk.injEq, List.cons.injEq, Value.int.injEq, and_true, true_and] at hs
  exact ⟨s, hs⟩

theorem Try.flatAsk : flatOf Try.prog 5 31 = some [.int .u64, .int .u64, .int .u64, .int .u64, .int .i64] := by kernel_rfl
theorem Try.cellsAsk : Try.prog.cellsOf 31 = 5 := by kernel_rfl

theorem ok_ask {H : Type} {enc : TypeId × Value → H} {P : Program} {w : World} {base : Nat} {spare : Nat → Bool} {held : Bool} {c : List Value} (h : OkAll enc P w base spare held [.int .u64, .int .u64, .int .u64, .int .u64, .int .i64] c) :
    ∃ q : Miss, c = askc q ∧ -9223372036854775808 ≤ q.1 ∧ q.1 ≤ 9223372036854775807 := by
  obtain ⟨hl, hk⟩ := h
  match c, hl with
  | [v0, v1, v2, v3, v4], _ =>
    obtain ⟨a, rfl, ha⟩ := hk 0 _ _ rfl rfl
    obtain ⟨b, rfl, hb⟩ := hk 1 _ _ rfl rfl
    obtain ⟨c, rfl, hc⟩ := hk 2 _ _ rfl rfl
    obtain ⟨d, rfl, hd⟩ := hk 3 _ _ rfl rfl
    obtain ⟨p, rfl, hp⟩ := hk 4 _ _ rfl rfl
    obtain ⟨s, rfl, rfl, rfl, rfl⟩ := cls_of_four ha hb hc hd
    exact ⟨(p, s), rfl, wf_i64 hp⟩

/-- an argument that is a row of askings. -/
theorem open_asks {H : Type} {enc : TypeId × Value → H} {W : World} {base : Nat} {v : Value} {d : DataW H} {p : List MemPlace}
    (hval : Value.okWide Try.prog W .any base 23 v) (h : DataW.Trod enc Try.prog W 0 (fun _ => true) true 23 v d p) : ∃ l : List Miss, AsksAt W v l := by
  obtain ⟨a0, len, cap, rfl⟩ := okWide_slice Try.underlying23 hval
  obtain ⟨fuel, hf⟩ := h
  simp only [Value.cells] at hf
  obtain ⟨es, hr, ho⟩ := open_rows Try.underlying23 Try.flatAsk Try.cellsAsk (by omega) hf
  have hq : ∀ es : List (List Value), (∀ c ∈ es, OkAll enc Try.prog W 0 (fun _ => true) true [.int .u64, .int .u64, .int .u64, .int .u64, .int .i64] c) → ∃ l : List Miss, es = l.map askc ∧ ∀ q ∈ l, -9223372036854775808 ≤ q.1 ∧ q.1 ≤ 9223372036854775807 := by
    intro es
    induction es with
    | nil => intro _; exact ⟨[], rfl, fun q hq => by simp at hq⟩
    | cons c r ih =>
      intro h
      obtain ⟨l, rfl, hl⟩ := ih (fun c hc => h c (by simp [hc]))
      obtain ⟨q, rfl, hq⟩ := ok_ask (h c (by simp))
      refine ⟨q :: l, rfl, fun q' hq' => ?_⟩
      rcases List.mem_cons.1 hq' with rfl | h
      · exact hq
      · exact hl q' h
  obtain ⟨l, rfl, hl⟩ := hq es ho
  exact ⟨l, hr, hl⟩

/-- those that are not there. -/
def missed (W : List UInt8) (l : List Miss) : List Miss := l.filter fun q => !thereB W q.2 q.1
theorem missed_snoc (W : List UInt8) (l : List Miss) (q : Miss) : missed W (l ++ [q]) = if thereB W q.2 q.1 then missed W l else missed W l ++ [q] := by
  unfold missed
  rw [List.filter_append]
  cases h : thereB W q.2 q.1 <;> simp [h]
theorem missed_take (W : List UInt8) (l : List Miss) {i : Nat} (h : i < l.length) : missed W (l.take (i + 1)) = if thereB W l[i].2 l[i].1 then missed W (l.take i) else missed W (l.take i) ++ [l[i]] := by
  rw [List.take_succ_eq_append_getElem h, missed_snoc]
/-- what asking all leaves. -/
theorem ask_missed (W : List UInt8) (M : List Miss) (q : Miss) (h : 0 ≤ q.1) : askA W (sumP M) q.2 q.1 = sumP (if thereB W q.2 q.1 then M else M ++ [q]) := by
  cases ht : thereB W q.2 q.1
  · rw [askA_miss h ht]
    simp [sumP_snoc]
  · rw [askA_hit ht]
    simp
end Go.Proofs.Ytfhgmnlhmfnckaa
