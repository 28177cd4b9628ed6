import Derived.Test.YtpchjpmkkiopiaaGreatMkCm
import Derived.Shelf.SlSortCmp.InsertionK
import Derived.Test.YtpchjpmkkiopiaaGreatShS
namespace Go.Proofs.YtpchjpmkkiopiaaGreat
open Go.RowKit Go.Lib Go.Sort Go.Shelf

instance : Inhabited Ky := ⟨⟨0, 0, 0⟩⟩
theorem kyc_one (p : Ky) : ∀ u ∈ kyc p, u.oneCell' = true := by intro u hu; simp [kyc] at hu; rcases hu with rfl | rfl | rfl <;> rfl
def Ky.le (a b : Ky) : Prop := ¬ Ky.lt b a
theorem kltE (x y : Ky) : ltOf cmpK x y = decide (Ky.lt x y) := by
  unfold ltOf
  exact decide_eq_decide.2 (cmpK_lt x y)
theorem kswoE : SWO (ltOf cmpK) where
  irrefl x := by rw [kltE]; exact decide_eq_false (by unfold Ky.lt; omega)
  trans x y z h1 h2 := by
    rw [kltE, decide_eq_true_eq] at *
    unfold Ky.lt at *
    omega
  ntrans x y z h1 h2 := by
    rw [kltE, decide_eq_false_iff_not] at *
    unfold Ky.lt at *
    omega
theorem kcmpLays (blk off size : Nat) (w : World) : CmpLays Tryz.prog 50 #[] kyc 3 cmpK blk off size w :=
  fun _ _ _ _ x y => kcompare_grow x y _
theorem kflatK_list (d : Array Ky) : (flatK kyc 3 d).toList = d.toList.flatMap kyc := by
  apply List.ext_getElem?
  intro i
  by_cases hi : i < d.size * 3
  · have hd : i / 3 < d.toList.length := by simp; omega
    have hm : i % 3 < 3 := Nat.mod_lt _ (by omega)
    have h1 := flat_get kyc_len d.toList (i / 3) (i % 3) hd hm
    have e : i / 3 * 3 + i % 3 = i := by omega
    rw [e] at h1
    rw [h1]
    have h2 : (flatK kyc 3 d)[i]! = (kyc d[i / 3]!)[i % 3]! := get_flatK kyc 3 d i hi
    have h3 : i < (flatK kyc 3 d).size := by simpa using hi
    rw [getElem!_pos (flatK kyc 3 d) i h3] at h2
    have h4 : i / 3 < d.size := by simpa using hd
    rw [getElem!_pos d (i / 3) h4] at h2
    have h5 : i % 3 < (kyc d[i / 3]).length := by rw [kyc_len]; exact hm
    rw [getElem!_pos (kyc d[i / 3]) (i % 3) h5] at h2
    simp only [Array.getElem?_toList, Array.getElem_toList]
    rw [Array.getElem?_eq_getElem h3, h2, List.getElem?_eq_getElem h5]
  · rw [List.getElem?_eq_none (by simp; omega), List.getElem?_eq_none (by rw [flat_len kyc_len]; simp; omega)]
/-- a row that is owned, as the sort asks it. -/
theorem kholds_own {w : World} {base g n cap : Nat} {L : List Ky} (h : w.ownsRow base 24 3 (.slice (some ⟨g, 0, none⟩) n cap) n (L.flatMap kyc)) : HoldsK kyc 3 w g 0 L.toArray := by
  intro j hj
  rw [size_flatK] at hj
  have hj' : j < L.length * 3 := by simpa using hj
  obtain ⟨g', cap', cur, hv, -, hg, -, -, -, ht⟩ := h.2.resolve_left (fun h => by simp at h)
  simp only [Value.slice.injEq, Option.some.injEq, Addr.mk.injEq] at hv
  obtain ⟨⟨rfl, -⟩, -⟩ := hv
  have hn : L.length * 3 = n * 3 := by have := h.1; rw [flat_len kyc_len] at this; exact this
  refine ⟨?_, (block_cell' hg _).2⟩
  rw [(block_cell' hg _).1, Nat.zero_add]
  have h3 : j < (flatK kyc 3 L.toArray).size := by simpa using hj'
  rw [getElem!_pos (flatK kyc 3 L.toArray) j h3]
  have h1 : (flatK kyc 3 L.toArray).toList[j]? = (L.flatMap kyc)[j]? := by rw [kflatK_list]
  rw [← ht, List.getElem?_take_of_lt (by omega)] at h1
  simp only [Array.getElem?_toList] at h1
  rw [← h1, Array.getElem?_eq_getElem h3]
  rfl
/-- what a sort leaves. -/
theorem kown_sorted {w : World} {base g n cap m : Nat} {L : List Ky} {d : Array Ky} {os : Array Obj} (h : w.ownsRow base 24 3 (.slice (some ⟨g, 0, none⟩) n cap) n (L.flatMap kyc)) (hd : d.size = L.length) :
    (sortWorldK kyc 3 w g 0 m d os).ownsRow base 24 3 (.slice (some ⟨g, 0, none⟩) n cap) n (d.toList.flatMap kyc) ∧ Keeps (fun k => k = g) w (sortWorldK kyc 3 w g 0 m d os) := by
  obtain ⟨g', cap', cur, hv, hb, hg, h1, h2, h3, ht⟩ := h.2.resolve_left (fun h => by simp at h)
  simp only [Value.slice.injEq, Option.some.injEq, Addr.mk.injEq] at hv
  obtain ⟨⟨rfl, -⟩, -, rfl⟩ := hv
  have hn : L.length * 3 = n * 3 := by have := h.1; rw [flat_len kyc_len] at this; exact this
  have hgl := lt_of_block hg
  have hlen : (d.toList.flatMap kyc).length = n * 3 := by rw [flat_len kyc_len]; simp; omega
  have hheap : ∀ k, k < w.heap.size → (sortWorldK kyc 3 w g 0 m d os).heap[k]? = (w.heap.modify g (onCells (putCells id 0 (flatK kyc 3 d))))[k]? := fun k hk => by
    show ((w.heap.modify g (onCells (putCells id 0 (flatK kyc 3 d)))) ++ os)[k]? = _
    rw [Array.getElem?_append, if_pos (by simpa using hk)]
  have hsz : w.heap.size ≤ (sortWorldK kyc 3 w g 0 m d os).heap.size := by
    show _ ≤ ((w.heap.modify g (onCells (putCells id 0 (flatK kyc 3 d)))) ++ os).size
    simp
  refine ⟨⟨hlen, .inr ⟨g, cap, putCells id 0 (flatK kyc 3 d) cur, rfl, hb, ?_, h1, h2, by unfold putCells; simpa using h3, ?_⟩⟩, ⟨rfl, rfl, rfl, hsz, fun k hk hne => ?_⟩⟩
  · rw [hheap g hgl, Array.getElem?_modify, if_pos rfl, hg]
    rfl
  · apply List.ext_getElem?
    intro i
    by_cases hi : i < n * 3
    · have h5 : i < (flatK kyc 3 d).size := by simp; omega
      have h6 : i < cur.size := by
        have := h3
        have h7 : n * 3 ≤ cap * 3 := by omega
        omega
      rw [List.getElem?_take_of_lt hi]
      have e : (putCells id 0 (flatK kyc 3 d) cur)[i]? = some ((flatK kyc 3 d)[i]) := by
        unfold putCells
        rw [Array.getElem?_mapIdx, Array.getElem?_eq_getElem h6]
        simp only [Option.map_some, Nat.zero_le, Nat.zero_add, true_and, Nat.sub_zero]
        rw [if_pos h5, getElem!_pos (flatK kyc 3 d) i h5]
        rfl
      rw [Array.getElem?_toList, e, ← kflatK_list, Array.getElem?_toList, Array.getElem?_eq_getElem h5]
    · rw [List.getElem?_eq_none (by simp; omega), List.getElem?_eq_none (by omega)]
  · rw [hheap k hk, Array.getElem?_modify, if_neg (fun e => hne e.symm)]
theorem ksort_none (ao : Option Addr) (cap : Nat) (fv : Value) (w : World) :
    Calls Tryz.prog 64 #[.slice ao 0 cap, fv] w fun e w' => e = .returned (.tuple #[]) ∧ w' = w := by
  have h := AnyF.slices_SortFunc_none Tryz.sortE ao cap fv w
  change Calls Tryz.prog 64 _ _ _ at h
  exact h
theorem ksort_own {base : Nat} {v : Value} {L : List Ky} (w : World) (hle : L.length ≤ 100000) (h : w.ownsRow base 24 3 v L.length (L.flatMap kyc)) :
    Calls Tryz.prog 64 #[v, .func (.func 50) #[] #[]] w fun e w' => e = .returned (.tuple #[]) ∧
      ∃ S : List Ky, S.Perm L ∧ S.Pairwise Ky.le ∧ w'.ownsRow base 24 3 v L.length (S.flatMap kyc) ∧ Keeps (fun k => base ≤ k) w w' := by
  by_cases h0 : 0 < L.length
  · obtain ⟨g, cap, rfl⟩ := own_shape h h0
    have hbg : base ≤ g := (h.lt g rfl).1
    have hgl : g < w.heap.size := (h.lt g rfl).2
    have eg : ∀ args w, (callFunc 50 args).run Tryz.prog w = .ok (.enter 50 args) w := enters_of Tryz.func50 (by kernel_rfl) rfl
    have hcon := AnyQ.slices_SortFunc Tryz.sortE 3 Tryz.isAgg24 Tryz.sizeOf24 kyc kyc_len kyc_one cmpK kswoE 50 #[] g 0 cap L.toArray w eg (kcmpLays g 0 L.toArray.size w) (kholds_own h) hgl (by simp; omega)
    change Calls Tryz.prog 64 _ _ _ at hcon
    have hsz : L.toArray.size = L.length := by simp
    rw [hsz] at hcon
    refine hcon.mono ?_
    rintro e w' ⟨he, d, m, os, hp, hs, rfl⟩
    have hd : d.size = L.length := by rw [hp.1]; simp
    obtain ⟨ho, hk⟩ := kown_sorted (m := m) (os := os) h hd
    refine ⟨he, d.toList, ?_, ?_, ho, Keeps.mono hk fun k _ e => by subst e; exact hbg⟩
    · have h1 := hp.2.2
      have e1 : d.extract 0 L.length = d := by rw [← hd]; simp
      have e2 : L.toArray.extract 0 L.length = L.toArray := by rw [← hsz]; simp
      rw [e1, e2] at h1
      simpa using h1
    · rw [List.pairwise_iff_getElem]
      intro i j hi hj hij
      have hi' : i < d.size := by simpa using hi
      have hj' : j < d.size := by simpa using hj
      have h1 := hs i j (Nat.zero_le _) hij (by omega)
      rw [kltE, decide_eq_false_iff_not, getElem!_pos d i hi', getElem!_pos d j hj'] at h1
      exact h1
  · have : L = [] := List.eq_nil_of_length_eq_zero (by omega)
    subst this
    obtain ⟨ao, cap, rfl⟩ := own_val h
    refine (ksort_none ao cap _ w).mono ?_
    rintro e w' ⟨he, rfl⟩
    exact ⟨he, [], List.Perm.refl _, List.Pairwise.nil, h, Keeps.refl _ _⟩
theorem AllK.perm {f : Ky → Option Value} {s : Nat} {L S : List Ky} (h : AllK f s L) (hp : S.Perm L) : AllK f s S :=
  ⟨hp.nodup_iff.2 h.1, fun x hx => (h.2.1 x hx).trans hp.mem_iff.symm, fun x hx => h.2.2.1 x (hp.mem_iff.1 hx), by rw [hp.length_eq]; exact h.2.2.2⟩
set_option maxHeartbeats 1000000 in
theorem ksortedFunc_any (Bs m s : Nat) (f : Ky → Option Value) (hle : s ≤ 100000) (w : World) (hBs : w.cell? ⟨Bs, 0, none⟩ = some (.map (some m))) (hm : MapV kyK w m s f) :
    Calls Tryz.prog 48 #[.func (.func 65) #[] #[.pointer (some ⟨Bs, 0, none⟩)], .func (.func 50) #[] #[]] w fun e W' =>
      ∃ (v : Value) (S : List Ky), e = .returned v ∧ AllK f s S ∧ S.Pairwise Ky.le ∧ W'.ownsRow w.heap.size 24 3 v S.length (S.flatMap kyc) ∧ Below w.heap.size w W' := by
  have HC := Lib.hid (collect_any Bs m s f hle w hBs hm)
  clear hBs hm
  go_enter Tryz.func48, Tryz.ntmps48
  go_wp2_with fail
  refine HC.out.mono ?_
  rintro e w1 ⟨v, L, rfl, hL, hown, hb⟩
  have HS := Lib.hid (ksort_own w1 (Nat.le_trans hL.2.2.2 hle) hown)
  have HB := Lib.hid hb
  clear hown hb
  go_wp2_with fail
  refine HS.out.mono ?_
  rintro e w2 ⟨rfl, S, hp, hs, hown, hk⟩
  have HE := Lib.hid (show ∃ S : List Ky, AllK f s S ∧ S.Pairwise Ky.le ∧ w2.ownsRow w.heap.size 24 3 v S.length (S.flatMap kyc) ∧ Below w.heap.size w w2 from ⟨S, hL.perm hp, hs, by rw [hp.length_eq]; exact hown, HB.out.trans (hk.below HB.out.size fun k hk => hk)⟩)
  clear hL hp hs hown hk
  go_wp2
  go_ret
  obtain ⟨S, h⟩ := HE.out
  exact ⟨v, S, rfl, h⟩
end Go.Proofs.YtpchjpmkkiopiaaGreat
