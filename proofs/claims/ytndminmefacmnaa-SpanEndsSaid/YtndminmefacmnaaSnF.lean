/-
  slices.SortFunc at spans: the row it leaves.
-/
import Derived.Test.YtndminmefacmnaaSnE
import Derived.Test.YtndminmefacmnaaShS
import Derived.Shelf.SlSortCmp.InsertionK
namespace Go.Proofs.Ytndminmefacmnaa
open Go.RowKit Go.Lib Go.Sort Go.Shelf

instance : Inhabited Sg := ⟨⟨0, 0⟩⟩
theorem ltE (x y : Sg) : ltOf cmpS x y = decide (ltS x y) := by
  unfold ltOf
  exact decide_eq_decide.2 (cmpS_lt x y)
theorem swoE : SWO (ltOf cmpS) where
  irrefl x := by rw [ltE]; exact decide_eq_false (by unfold ltS; omega)
  trans x y z h1 h2 := by
    rw [ltE, decide_eq_true_eq] at *
    unfold ltS at *
    omega
  ntrans x y z h1 h2 := by
    rw [ltE, decide_eq_false_iff_not] at *
    unfold ltS at *
    omega
theorem cmpLaysE (blk off size : Nat) (w : World) : CmpLays Try.prog 38 #[] sgc 2 cmpS blk off size w :=
  fun _ _ _ _ x y => compare_grow x y _
theorem flatK_list (d : Array Sg) : (flatK sgc 2 d).toList = d.toList.flatMap sgc := by
  apply List.ext_getElem?
  intro i
  by_cases hi : i < d.size * 2
  · have hd : i / 2 < d.toList.length := by simp; omega
    have hm : i % 2 < 2 := Nat.mod_lt _ (by omega)
    have h1 := flat_get sgc_len d.toList (i / 2) (i % 2) hd hm
    have e : i / 2 * 2 + i % 2 = i := by omega
    rw [e] at h1
    rw [h1]
    have h2 : (flatK sgc 2 d)[i]! = (sgc d[i / 2]!)[i % 2]! := get_flatK sgc 2 d i hi
    have h3 : i < (flatK sgc 2 d).size := by simpa using hi
    rw [getElem!_pos (flatK sgc 2 d) i h3] at h2
    have h4 : i / 2 < d.size := by simpa using hd
    rw [getElem!_pos d (i / 2) h4] at h2
    have h5 : i % 2 < (sgc d[i / 2]).length := by rw [sgc_len]; exact hm
    rw [getElem!_pos (sgc d[i / 2]) (i % 2) h5] at h2
    simp only [Array.getElem?_toList, Array.getElem_toList]
    rw [Array.getElem?_eq_getElem h3, h2, List.getElem?_eq_getElem h5]
  · rw [List.getElem?_eq_none (by simp; omega), List.getElem?_eq_none (by rw [flat_len sgc_len]; simp; omega)]
/-- a row that is owned, as the sort asks it. -/
theorem holds_own {w : World} {base g n cap : Nat} {L : List Sg} (h : w.ownsRow base 53 2 (.slice (some ⟨g, 0, none⟩) n cap) n (L.flatMap sgc)) : HoldsK sgc 2 w g 0 L.toArray := by
  intro j hj
  rw [size_flatK] at hj
  have hj' : j < L.length * 2 := by simpa using hj
  obtain ⟨g', cap', cur, hv, -, hg, -, -, -, ht⟩ := h.2.resolve_left (fun h => by simp at h)
  simp only [Value.slice.injEq, Option.some.injEq, Addr.mk.injEq] at hv
  obtain ⟨⟨rfl, -⟩, -⟩ := hv
  have hn : L.length * 2 = n * 2 := by have := h.1; rw [flat_len sgc_len] at this; exact this
  refine ⟨?_, (block_cell' hg _).2⟩
  rw [(block_cell' hg _).1, Nat.zero_add]
  have h3 : j < (flatK sgc 2 L.toArray).size := by simpa using hj'
  rw [getElem!_pos (flatK sgc 2 L.toArray) j h3]
  have h1 : (flatK sgc 2 L.toArray).toList[j]? = (L.flatMap sgc)[j]? := by rw [flatK_list]
  rw [← ht, List.getElem?_take_of_lt (by omega)] at h1
  simp only [Array.getElem?_toList] at h1
  rw [← h1, Array.getElem?_eq_getElem h3]
  rfl
/-- what a sort leaves. -/
theorem own_sorted {w : World} {base g n cap m : Nat} {L : List Sg} {d : Array Sg} {os : Array Obj} (h : w.ownsRow base 53 2 (.slice (some ⟨g, 0, none⟩) n cap) n (L.flatMap sgc)) (hd : d.size = L.length) :
    (sortWorldK sgc 2 w g 0 m d os).ownsRow base 53 2 (.slice (some ⟨g, 0, none⟩) n cap) n (d.toList.flatMap sgc) ∧ Keeps (fun k => k = g) w (sortWorldK sgc 2 w g 0 m d os) := by
  obtain ⟨g', cap', cur, hv, hb, hg, h1, h2, h3, ht⟩ := h.2.resolve_left (fun h => by simp at h)
  simp only [Value.slice.injEq, Option.some.injEq, Addr.mk.injEq] at hv
  obtain ⟨⟨rfl, -⟩, -, rfl⟩ := hv
  have hn : L.length * 2 = n * 2 := by have := h.1; rw [flat_len sgc_len] at this; exact this
  have hgl := lt_of_block hg
  have hlen : (d.toList.flatMap sgc).length = n * 2 := by rw [flat_len sgc_len]; simp; omega
  have hheap : ∀ k, k < w.heap.size → (sortWorldK sgc 2 w g 0 m d os).heap[k]? = (w.heap.modify g (onCells (putCells id 0 (flatK sgc 2 d))))[k]? := fun k hk => by
    show ((w.heap.modify g (onCells (putCells id 0 (flatK sgc 2 d)))) ++ os)[k]? = _
    rw [Array.getElem?_append, if_pos (by simpa using hk)]
  have hsz : w.heap.size ≤ (sortWorldK sgc 2 w g 0 m d os).heap.size := by
    show _ ≤ ((w.heap.modify g (onCells (putCells id 0 (flatK sgc 2 d)))) ++ os).size
    simp
  refine ⟨⟨hlen, .inr ⟨g, cap, putCells id 0 (flatK sgc 2 d) cur, rfl, hb, ?_, h1, h2, by unfold putCells; simpa using h3, ?_⟩⟩, ⟨rfl, rfl, rfl, hsz, fun k hk hne => ?_⟩⟩
  · rw [hheap g hgl, Array.getElem?_modify, if_pos rfl, hg]
    rfl
  · apply List.ext_getElem?
    intro i
    by_cases hi : i < n * 2
    · have h5 : i < (flatK sgc 2 d).size := by simp; omega
      have h6 : i < cur.size := by
        have := h3
        have h7 : n * 2 ≤ cap * 2 := by omega
        omega
      rw [List.getElem?_take_of_lt hi]
      have e : (putCells id 0 (flatK sgc 2 d) cur)[i]? = some ((flatK sgc 2 d)[i]) := by
        unfold putCells
        rw [Array.getElem?_mapIdx, Array.getElem?_eq_getElem h6]
        simp only [Option.map_some, Nat.zero_le, Nat.zero_add, true_and, Nat.sub_zero]
        rw [if_pos h5, getElem!_pos (flatK sgc 2 d) i h5]
        rfl
      rw [Array.getElem?_toList, e, ← flatK_list, Array.getElem?_toList, Array.getElem?_eq_getElem h5]
    · rw [List.getElem?_eq_none (by simp; omega), List.getElem?_eq_none (by omega)]
  · rw [hheap k hk, Array.getElem?_modify, if_neg (fun e => hne e.symm)]
theorem own_shape2 {w : World} {base n : Nat} {e : TypeId} {C : Nat} {v : Value} {xs : List Value} (h : w.ownsRow base e C v n xs) (hn : 0 < n) : ∃ g cap, v = .slice (some ⟨g, 0, none⟩) n cap := by
  rcases h.2 with ⟨-, h0⟩ | ⟨g, cap, cur, rfl, -⟩
  · omega
  · exact ⟨g, cap, rfl⟩
theorem sort_none (ao : Option Addr) (cap : Nat) (fv : Value) (w : World) :
    Calls Try.prog 37 #[.slice ao 0 cap, fv] w fun e w' => e = .returned (.tuple #[]) ∧ w' = w := by
  have h := AnyF.slices_SortFunc_none Try.sortE ao cap fv w
  change Calls Try.prog 37 _ _ _ at h
  exact h
theorem sort_own {base : Nat} {v : Value} {L : List Sg} (w : World) (hle : L.length ≤ 100000) (h : w.ownsRow base 53 2 v L.length (L.flatMap sgc)) :
    Calls Try.prog 37 #[v, .func (.func 38) #[] #[]] w fun e w' => e = .returned (.tuple #[]) ∧
      ∃ S : List Sg, S.Perm L ∧ S.Pairwise (fun a b => ¬ ltS b a) ∧ w'.ownsRow base 53 2 v L.length (S.flatMap sgc) ∧ Keeps (fun k => base ≤ k) w w' := by
  by_cases h0 : 0 < L.length
  · obtain ⟨g, cap, rfl⟩ := own_shape2 h h0
    have hbg : base ≤ g := (h.lt g rfl).1
    have hgl : g < w.heap.size := (h.lt g rfl).2
    have eg : ∀ args w, (callFunc 38 args).run Try.prog w = .ok (.enter 38 args) w := enters_of Try.func38 (by kernel_rfl) rfl
    have hcon := AnyQ.slices_SortFunc Try.sortE 2 Try.isAgg53 Try.sizeOf53 sgc sgc_len sgc_one cmpS swoE 38 #[] g 0 cap L.toArray w eg (cmpLaysE g 0 L.toArray.size w) (holds_own h) hgl (by simp; omega)
    change Calls Try.prog 37 _ _ _ at hcon
    have hsz : L.toArray.size = L.length := by simp
    rw [hsz] at hcon
    refine hcon.mono ?_
    rintro e w' ⟨he, d, m, os, hp, hs, rfl⟩
    have hd : d.size = L.length := by rw [hp.1]; simp
    obtain ⟨ho, hk⟩ := own_sorted (m := m) (os := os) h hd
    refine ⟨he, d.toList, ?_, ?_, ho, Keeps.mono hk fun k _ e => by subst e; exact hbg⟩
    · have h1 := hp.2.2
      have e1 : d.extract 0 L.length = d := by rw [← hd]; simp
      have e2 : L.toArray.extract 0 L.length = L.toArray := by rw [← hsz]; simp
      rw [e1, e2] at h1
      simpa using h1
    · rw [List.pairwise_iff_getElem]
      intro i j hi hj hij
      have hi' : i < d.size := by simpa using hi
      have hj' : j < d.size := by simpa using hj
      have h1 := hs i j (Nat.zero_le _) hij (by omega)
      rw [ltE, decide_eq_false_iff_not, getElem!_pos d i hi', getElem!_pos d j hj'] at h1
      exact h1
  · have : L = [] := List.eq_nil_of_length_eq_zero (by omega)
    subst this
    obtain ⟨ao, cap, rfl⟩ := own_val h
    refine (sort_none ao cap _ w).mono ?_
    rintro e w' ⟨he, rfl⟩
    exact ⟨he, [], List.Perm.refl _, List.Pairwise.nil, h, Keeps.refl _ _⟩
end Go.Proofs.Ytndminmefacmnaa
