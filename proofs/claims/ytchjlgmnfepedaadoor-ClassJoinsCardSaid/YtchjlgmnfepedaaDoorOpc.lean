/-
  Arguments opened: a class, a slice of classes, a slice of runs.
-/
import Derived.Test.YtchjlgmnfepedaaDoorOpen
import Derived.Test.YtchjlgmnfepedaaDoorLen
import Derived.Test.YtchjlgmnfepedaaDoorAwake
namespace Go.Proofs.YtchjlgmnfepedaaDoor
open Go.ChangeShapes Go.WideShapes Go.ChangeAt Go.RowKit

theorem wf_u64 {n : Int} (h : (Lit.int .u64 n).wf = true) : ∃ m : Nat, n = m ∧ m < 18446744073709551616 := by
  have : 0 ≤ n ∧ n ≤ 18446744073709551615 := by simpa [Lit.wf, IntKind.min, IntKind.max, IntKind.signed, IntKind.bits] using h
  exact ⟨n.toNat, by omega, by omega⟩
theorem wf_u8 {n : Int} (h : (Lit.int .u8 n).wf = true) : ∃ m : Nat, n = m ∧ m < 256 := by
  have : 0 ≤ n ∧ n ≤ 255 := by simpa [Lit.wf, IntKind.min, IntKind.max, IntKind.signed, IntKind.bits] using h
  exact ⟨n.toNat, by omega, by omega⟩
theorem Tryd.flatClass : flatOf Tryd.prog 5 24 = some [.int .u64, .int .u64, .int .u64, .int .u64] := by kernel_rfl
theorem Tryd.cellsClass : Tryd.prog.cellsOf 24 = 4 := by kernel_rfl
theorem Tryd.flatPair : flatOf Tryd.prog 5 33 = some [.int .u8, .int .u8] := by kernel_rfl
theorem Tryd.cellsPair : Tryd.prog.cellsOf 33 = 2 := by kernel_rfl

theorem ok_class {H : Type} {enc : TypeId × Value → H} {P : Program} {w : World} {base : Nat} {spare : Nat → Bool} {held : Bool} {c : List Value} (h : OkAll enc P w base spare held [.int .u64, .int .u64, .int .u64, .int .u64] c) :
    ∃ s, c = (clc s).toList := by
  obtain ⟨hl, hk⟩ := h
  match c, hl with
  | [v0, v1, v2, v3], _ =>
    obtain ⟨a, rfl, ha⟩ := hk 0 _ _ rfl rfl
    obtain ⟨b, rfl, hb⟩ := hk 1 _ _ rfl rfl
    obtain ⟨c, rfl, hc⟩ := hk 2 _ _ rfl rfl
    obtain ⟨d, rfl, hd⟩ := hk 3 _ _ rfl rfl
    obtain ⟨a', rfl, ha'⟩ := wf_u64 ha
    obtain ⟨b', rfl, hb'⟩ := wf_u64 hb
    obtain ⟨c', rfl, hc'⟩ := wf_u64 hc
    obtain ⟨d', rfl, hd'⟩ := wf_u64 hd
    obtain ⟨s, hs⟩ := words_cl a' b' c' d' ha' hb' hc' hd'
    exact ⟨s, by rw [← hs]⟩
theorem ok_pair {H : Type} {enc : TypeId × Value → H} {P : Program} {w : World} {base : Nat} {spare : Nat → Bool} {held : Bool} {c : List Value} (h : OkAll enc P w base spare held [.int .u8, .int .u8] c) :
    ∃ r : Nat × Nat, c = [.int .u8 (r.1 : Int), .int .u8 (r.2 : Int)] ∧ r.1 < 256 ∧ r.2 < 256 := by
  obtain ⟨hl, hk⟩ := h
  match c, hl with
  | [v0, v1], _ =>
    obtain ⟨a, rfl, ha⟩ := hk 0 _ _ rfl rfl
    obtain ⟨b, rfl, hb⟩ := hk 1 _ _ rfl rfl
    obtain ⟨a', rfl, ha'⟩ := wf_u8 ha
    obtain ⟨b', rfl, hb'⟩ := wf_u8 hb
    exact ⟨(a', b'), rfl, ha', hb'⟩

/-- an argument that is a class. -/
theorem open_class {H : Type} {enc : TypeId × Value → H} {W : World} {base : Nat} {v : Value} {d : DataW H} {p : List MemPlace}
    (hval : Value.okWide Tryd.prog W .any base 24 v) (h : DataW.Trod enc Tryd.prog W 0 (fun _ => true) true 24 v d p) : ∃ s, v = clv s := by
  simp only [Value.okWide, Tryd.underlying24] at hval
  obtain ⟨cs, rfl, hsz, _⟩ := hval
  obtain ⟨fuel, hf⟩ := h
  simp only [Value.cells] at hf
  obtain ⟨s, hs⟩ := ok_class (open_flat _ _ _ _ _ _ Tryd.flatClass hf)
  exact ⟨s, by unfold clv; rw [← Array.toList_inj.1 hs]⟩
theorem map_of {α : Type} (f : α → List Value) (Q : List Value → Prop) (R : α → Prop) (hQ : ∀ c, Q c → ∃ s, c = f s ∧ R s) : ∀ es : List (List Value), (∀ c ∈ es, Q c) → ∃ l : List α, es = l.map f ∧ ∀ s ∈ l, R s
  | [], _ => ⟨[], rfl, fun s hs => by simp at hs⟩
  | c :: r, h => by
    obtain ⟨l, rfl, hl⟩ := map_of f Q R hQ r (fun c hc => h c (by simp [hc]))
    obtain ⟨s, rfl, hs⟩ := hQ c (h c (by simp))
    refine ⟨s :: l, rfl, fun t ht => ?_⟩
    rcases List.mem_cons.1 ht with rfl | ht
    · exact hs
    · exact hl t ht
/-- an argument that is a row of classes. -/
theorem open_classes {H : Type} {enc : TypeId × Value → H} {W : World} {base : Nat} {v : Value} {d : DataW H} {p : List MemPlace}
    (hval : Value.okWide Tryd.prog W .any base 25 v) (h : DataW.Trod enc Tryd.prog W 0 (fun _ => true) true 25 v d p) : ∃ l, ClsAt W v l := by
  obtain ⟨a0, len, cap, rfl⟩ := okWide_slice Tryd.underlying25 hval
  obtain ⟨fuel, hf⟩ := h
  simp only [Value.cells] at hf
  obtain ⟨es, hr, ho⟩ := open_rows Tryd.underlying25 Tryd.flatClass Tryd.cellsClass (by omega) hf
  obtain ⟨l, rfl, _⟩ := map_of (fun s => (clc s).toList) _ (fun _ => True) (fun c hc => (ok_class hc).imp fun s hs => ⟨hs, trivial⟩) es ho
  obtain ⟨ao, b, off, cap', he, hl, hm, hn, ha, _, hc⟩ := hr
  rw [List.length_map] at he hl hn ha
  refine ⟨l, ao, b, off, cap', he, hl, hm, hn, ha, fun k hk j hj => ?_⟩
  rw [hc k (by simpa using hk) j hj, List.getElem_map]
  rw [Array.getElem?_toList, clc_get _ hj]
/-- an argument that is a row of runs. -/
theorem open_pairs {H : Type} {enc : TypeId × Value → H} {W : World} {base : Nat} {v : Value} {d : DataW H} {p : List MemPlace}
    (hval : Value.okWide Tryd.prog W .any base 26 v) (h : DataW.Trod enc Tryd.prog W 0 (fun _ => true) true 26 v d p) : ∃ o, PairsAt W v o ∧ ∀ r ∈ o, r.1 < 256 ∧ r.2 < 256 := by
  obtain ⟨a0, len, cap, rfl⟩ := okWide_slice Tryd.underlying26 hval
  obtain ⟨fuel, hf⟩ := h
  simp only [Value.cells] at hf
  obtain ⟨es, hr, ho⟩ := open_rows Tryd.underlying26 Tryd.flatPair Tryd.cellsPair (by omega) hf
  obtain ⟨l, rfl, hb⟩ := map_of (fun r : Nat × Nat => [.int .u8 (r.1 : Int), .int .u8 (r.2 : Int)]) _ (fun r => r.1 < 256 ∧ r.2 < 256) (fun c hc => ok_pair hc) es ho
  obtain ⟨ao, b, off, cap', he, hl, hm, hn, ha, _, hc⟩ := hr
  rw [List.length_map] at he hl hn ha
  refine ⟨l, ⟨ao, b, off, cap', he, hl, hm, hn, ha, fun k hk => ?_⟩, hb⟩
  have h0 := hc k (by simpa using hk) 0 (by omega)
  have h1 := hc k (by simpa using hk) 1 (by omega)
  rw [List.getElem_map] at h0 h1
  exact ⟨h0, h1⟩
end Go.Proofs.YtchjlgmnfepedaaDoor
