/-
  Things come sorted: plainly.
-/
import Derived.Test.YtcpcgpanmoellaaRng
import Derived.Test.YtcpcgpanmoellaaHrJ
namespace Go.Proofs.Ytcpcgpanmoellaa
open Go.RowKit Go.Lib

/-- things (key, name), as cells. -/
def ite (x : Int × Int) : List Value := [.int .i64 x.1, .int .i64 x.2]
def it2 (e : En) : List Value := [.int .i64 e.key, .int .i64 e.name]
theorem ite_len (x : Int × Int) : (ite x).length = 2 := rfl
theorem it2_len (x : En) : (it2 x).length = 2 := rfl
theorem it2_one (x : En) : ∀ u ∈ it2 x, u.oneCell' = true := by intro u hu; simp [it2] at hu; rcases hu with rfl | rfl <;> rfl
def itM (ks : List Int) (k : Nat) : List (Int × Int) := (List.range k).map fun i : Nat => (ks.getD i 0, (i : Int))
theorem itM_succ (ks : List Int) (k : Nat) : itM ks (k + 1) = itM ks k ++ [(ks.getD k 0, (k : Int))] := by simp [itM, List.range_succ]
theorem itM_len (ks : List Int) (k : Nat) : (itM ks k).length = k := by simp [itM]
theorem itM_get (ks : List Int) (k i : Nat) (h : i < (itM ks k).length) : (itM ks k)[i] = (ks.getD i 0, (i : Int)) := by simp [itM]
theorem putQ_itM (ks : List Int) : ∀ k : Nat, putQ 0 [] (itM ks k) = (true, (k : Int), mkM ks k)
  | 0 => rfl
  | k + 1 => by
    have ih := putQ_itM ks k
    have h := putQ_snoc (itM ks k) (ks.getD k 0, (k : Int)) 0 [] (by rw [ih])
    rw [itM_succ, h, ih]
    simp only
    rw [if_neg (by rw [mkM_has]; simp), mkM_succ]
    simp
theorem own_it {w : World} {base n : Nat} {v : Value} {l : List (Int × Int)} (hn : n = l.length) (h : w.ownsRow base 30 2 v n (l.flatMap ite)) : ItAt w v l := by
  subst hn
  rcases h.2 with ⟨rfl, h0⟩ | ⟨g, cap, cur, rfl, _, hg, hnc, hcm, hcs, ht⟩
  · exact ⟨none, 0, 0, 0, by rw [h0], fun h => by omega, fun i hi => by omega⟩
  · refine ⟨_, g, 0, cap, rfl, fun _ => ⟨rfl, _, _, hg⟩, fun i hi => ?_⟩
    have hc : ∀ c, c < 2 → w.cell? ⟨g, 0 + i * 2 + c, none⟩ = (ite l[i])[c]? := fun c hc => by
      rw [(block_cell' hg _).1, ← flat_get ite_len l i c hi hc, Nat.zero_add, ← ht, List.getElem?_take_of_lt (by omega)]
      simp
    exact ⟨hc 0 (by omega), hc 1 (by omega)⟩
theorem own_it2 {w : World} {base n : Nat} {v : Value} {l : List En} (hn : n = l.length) (h : w.ownsRow base 30 2 v n (l.flatMap it2)) : ItAt w v (l.map fun e => (e.key, e.name)) := by
  refine own_it (base := base) (n := n) (by rw [List.length_map]; exact hn) ?_
  rw [List.flatMap_map]
  exact h
/-- what holds of the things that come. -/
structure SortP (ks : List Int) (n : Nat) (S : List En) (k : Nat) (M : List En) : Prop where
  len : S.length = n
  srt : S.Pairwise En.le
  ent : ∀ e ∈ S, ∃ i : Nat, i < n ∧ e = ⟨ks.getD i 0, i, i⟩
  once : Once S
  prm : (S.drop k).Perm M
theorem SortP.start {ks : List Int} {n : Nat} {S : List En} (h1 : S.Perm (mkM ks n)) (h2 : S.Pairwise En.le) : SortP ks n S 0 (mkM ks n) := by
  refine ⟨by rw [h1.length_eq, mkM_len], h2, fun e he => mkM_mem.1 (h1.mem_iff.1 he), ?_, h1⟩
  have ho : Once (mkM ks n) := by
    unfold Once mkM
    rw [List.map_map]
    unfold List.Nodup
    rw [List.pairwise_map]
    refine List.Pairwise.imp ?_ List.pairwise_lt_range
    intro i j h
    simp only [Function.comp, ne_eq]
    omega
  exact ho.perm h1
theorem SortP.cons {ks : List Int} {n k : Nat} {S M : List En} (h : SortP ks n S k M) (hk : k < n) : S.drop k = pos S k :: S.drop (k + 1) := by
  rw [pos_get (by rw [h.len]; exact hk)]
  exact List.drop_eq_getElem_cons (by rw [h.len]; exact hk)
theorem SortP.first {ks : List Int} {n k : Nat} {S M : List En} (h : SortP ks n S k M) (hk : k < n) : FirstN M (pos S k) := by
  have hc := h.cons hk
  have hp := h.srt.sublist (List.drop_sublist k S)
  rw [hc] at hp
  have hm := h.prm
  rw [hc] at hm
  refine ⟨hm.mem_iff.1 (by simp), fun a ha => ?_⟩
  rcases List.mem_cons.1 (hm.mem_iff.2 ha) with rfl | h2
  · exact En.le_refl _
  · exact (List.pairwise_cons.1 hp).1 a h2
theorem SortP.next {ks : List Int} {n k : Nat} {S M : List En} (h : SortP ks n S k M) (hk : k < n) (ho : Once M) : SortP ks n S (k + 1) (dropN M (pos S k).name) := by
  refine ⟨h.len, h.srt, h.ent, h.once, ?_⟩
  refine drop_perm ho ?_
  have hm := h.prm
  rw [h.cons hk] at hm
  exact (List.perm_append_singleton _ _).trans hm
theorem SortP.at {ks : List Int} {n k : Nat} {S M : List En} (h : SortP ks n S k M) (hk : k < n) : ∃ i : Nat, i < n ∧ pos S k = ⟨ks.getD i 0, i, i⟩ := by
  refine h.ent _ ?_
  rw [pos_get (by rw [h.len]; exact hk)]
  exact List.getElem_mem _
theorem SortP.prev {ks : List Int} {n k : Nat} {S M : List En} (h : SortP ks n S (k + 1) M) (hk : k + 1 < n) : (pos S k).key < (pos S (k + 1)).key ∨ ((pos S k).key = (pos S (k + 1)).key ∧ (pos S k).name < (pos S (k + 1)).name) := by
  have h1 : k < S.length := by rw [h.len]; omega
  have h2 : k + 1 < S.length := by rw [h.len]; omega
  have h3 := List.pairwise_iff_getElem.1 h.srt k (k + 1) h1 h2 (by omega)
  rw [← pos_get h1, ← pos_get h2] at h3
  have h4 : (pos S k).name ≠ (pos S (k + 1)).name := fun e => by
    rw [pos_get h1, pos_get h2] at e
    have h5 : (S.map (·.name))[k]'(by simpa using h1) = (S.map (·.name))[k + 1]'(by simpa using h2) := by simpa using e
    have := (List.getElem_inj h.once).1 h5
    omega
  obtain ⟨i, -, hi⟩ := h.ent (pos S k) (by rw [pos_get h1]; exact List.getElem_mem _)
  obtain ⟨j, -, hj⟩ := h.ent (pos S (k + 1)) (by rw [pos_get h2]; exact List.getElem_mem _)
  rw [hi, hj] at h3 h4 ⊢
  unfold En.le En.lt at h3
  simp only at h3 h4 ⊢
  omega
end Go.Proofs.Ytcpcgpanmoellaa
