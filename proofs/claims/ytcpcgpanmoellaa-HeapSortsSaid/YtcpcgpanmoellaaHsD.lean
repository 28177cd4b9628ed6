/-
  A sort's world: the row it leaves; cmp.Compare's order.
-/
import Derived.Test.YtcpcgpanmoellaaHsC
import Derived.Shelf.SlSortCmp.InsertionK
namespace Go.Proofs.Ytcpcgpanmoellaa
open Go.RowKit Go.Lib Go.Sort Go.Shelf

instance : Inhabited En := ⟨En.none⟩
theorem ltE (x y : En) : ltOf cmpE x y = decide (En.lt x y) := by
  unfold ltOf
  exact decide_eq_decide.2 (cmpE_lt x y)
theorem swoE : SWO (ltOf cmpE) where
  irrefl x := by rw [ltE]; exact decide_eq_false (by unfold En.lt; omega)
  trans x y z h1 h2 := by
    rw [ltE, decide_eq_true_eq] at *
    unfold En.lt at *
    omega
  ntrans x y z h1 h2 := by
    rw [ltE, decide_eq_false_iff_not] at *
    unfold En.lt at *
    omega
theorem cmpLaysE (blk off size : Nat) (w : World) : CmpLays Try.prog 34 #[] enc 3 cmpE blk off size w :=
  fun _ _ _ _ x y => compare_grow x y _
theorem flatK_list (d : Array En) : (flatK enc 3 d).toList = d.toList.flatMap enc := by
  apply List.ext_getElem?
  intro i
  by_cases hi : i < d.size * 3
  · have hd : i / 3 < d.toList.length := by simp; omega
    have hm : i % 3 < 3 := Nat.mod_lt _ (by omega)
    have h1 := flat_get enc_len d.toList (i / 3) (i % 3) hd hm
    have e : i / 3 * 3 + i % 3 = i := by omega
    rw [e] at h1
    rw [h1]
    have h2 : (flatK enc 3 d)[i]! = (enc d[i / 3]!)[i % 3]! := get_flatK enc 3 d i hi
    have h3 : i < (flatK enc 3 d).size := by simpa using hi
    rw [getElem!_pos (flatK enc 3 d) i h3] at h2
    have h4 : i / 3 < d.size := by simpa using hd
    rw [getElem!_pos d (i / 3) h4] at h2
    have h5 : i % 3 < (enc d[i / 3]).length := by rw [enc_len]; exact hm
    rw [getElem!_pos (enc d[i / 3]) (i % 3) h5] at h2
    simp only [Array.getElem?_toList, Array.getElem_toList]
    rw [Array.getElem?_eq_getElem h3, h2, List.getElem?_eq_getElem h5]
  · rw [List.getElem?_eq_none (by simp; omega), List.getElem?_eq_none (by rw [flat_len enc_len]; simp; omega)]
/-- a row that is owned, as the sort asks it. -/
theorem holds_own {w : World} {base g n cap : Nat} {L : List En} (h : w.ownsRow base 67 3 (.slice (some ⟨g, 0, none⟩) n cap) n (L.flatMap enc)) : HoldsK enc 3 w g 0 L.toArray := by
  intro j hj
  rw [size_flatK] at hj
  have hj' : j < L.length * 3 := by simpa using hj
  obtain ⟨g', cap', cur, hv, -, hg, -, -, -, ht⟩ := h.2.resolve_left (fun h => by simp at h)
  simp only [Value.slice.injEq, Option.some.injEq, Addr.mk.injEq] at hv
  obtain ⟨⟨rfl, -⟩, -⟩ := hv
  have hn : L.length * 3 = n * 3 := by have := h.1; rw [flat_len enc_len] at this; exact this
  refine ⟨?_, (block_cell' hg _).2⟩
  rw [(block_cell' hg _).1, Nat.zero_add]
  have h3 : j < (flatK enc 3 L.toArray).size := by simpa using hj'
  rw [getElem!_pos (flatK enc 3 L.toArray) j h3]
  have h1 : (flatK enc 3 L.toArray).toList[j]? = (L.flatMap enc)[j]? := by rw [flatK_list]
  rw [← ht, List.getElem?_take_of_lt (by omega)] at h1
  simp only [Array.getElem?_toList] at h1
  rw [← h1, Array.getElem?_eq_getElem h3]
  rfl
/-- what a sort leaves. -/
theorem own_sorted {w : World} {base g n cap m : Nat} {L : List En} {d : Array En} {os : Array Obj} (h : w.ownsRow base 67 3 (.slice (some ⟨g, 0, none⟩) n cap) n (L.flatMap enc)) (hd : d.size = L.length) :
    (sortWorldK enc 3 w g 0 m d os).ownsRow base 67 3 (.slice (some ⟨g, 0, none⟩) n cap) n (d.toList.flatMap enc) ∧ Keeps (fun k => k = g) w (sortWorldK enc 3 w g 0 m d os) := by
  obtain ⟨g', cap', cur, hv, hb, hg, h1, h2, h3, ht⟩ := h.2.resolve_left (fun h => by simp at h)
  simp only [Value.slice.injEq, Option.some.injEq, Addr.mk.injEq] at hv
  obtain ⟨⟨rfl, -⟩, -, rfl⟩ := hv
  have hn : L.length * 3 = n * 3 := by have := h.1; rw [flat_len enc_len] at this; exact this
  have hgl := lt_of_block hg
  have hlen : (d.toList.flatMap enc).length = n * 3 := by rw [flat_len enc_len]; simp; omega
  have hheap : ∀ k, k < w.heap.size → (sortWorldK enc 3 w g 0 m d os).heap[k]? = (w.heap.modify g (onCells (putCells id 0 (flatK enc 3 d))))[k]? := fun k hk => by
    show ((w.heap.modify g (onCells (putCells id 0 (flatK enc 3 d)))) ++ os)[k]? = _
    rw [Array.getElem?_append, if_pos (by simpa using hk)]
  have hsz : w.heap.size ≤ (sortWorldK enc 3 w g 0 m d os).heap.size := by
    show _ ≤ ((w.heap.modify g (onCells (putCells id 0 (flatK enc 3 d)))) ++ os).size
    simp
  refine ⟨⟨hlen, .inr ⟨g, cap, putCells id 0 (flatK enc 3 d) cur, rfl, hb, ?_, h1, h2, by unfold putCells; simpa using h3, ?_⟩⟩, ⟨rfl, rfl, rfl, hsz, fun k hk hne => ?_⟩⟩
  · rw [hheap g hgl, Array.getElem?_modify, if_pos rfl, hg]
    rfl
  · apply List.ext_getElem?
    intro i
    by_cases hi : i < n * 3
    · have h5 : i < (flatK enc 3 d).size := by simp; omega
      have h6 : i < cur.size := by
        have := h3
        have h7 : n * 3 ≤ cap * 3 := by omega
        omega
      rw [List.getElem?_take_of_lt hi]
      have e : (putCells id 0 (flatK enc 3 d) cur)[i]? = some ((flatK enc 3 d)[i]) := by
        unfold putCells
        rw [Array.getElem?_mapIdx, Array.getElem?_eq_getElem h6]
        simp only [Option.map_some, Nat.zero_le, Nat.zero_add, true_and, Nat.sub_zero]
        rw [if_pos h5, getElem!_pos (flatK enc 3 d) i h5]
        rfl
      rw [Array.getElem?_toList, e, ← flatK_list, Array.getElem?_toList, Array.getElem?_eq_getElem h5]
    · rw [List.getElem?_eq_none (by simp; omega), List.getElem?_eq_none (by omega)]
  · rw [hheap k hk, Array.getElem?_modify, if_neg (fun e => hne e.symm)]
end Go.Proofs.Ytcpcgpanmoellaa
