/-
  Join.
-/
import Derived.Test.YtndminmefacmnaaSnP
namespace Go.Proofs.Ytndminmefacmnaa
open Go.RowKit Go.Lib

def jnStep (o : Option Sg) (s : Sg) : Option Sg := match o with
  | none => some s
  | some o => some ⟨min o.fr s.fr, max o.to s.to⟩
def jnO (L : List Sg) : Option Sg := L.foldl jnStep none
def jnD (L : List Sg) : Sg := (jnO L).getD ⟨0, 0⟩
/-- what spans are together. -/
def joinS (l : List Sg) : Sg := jnD (l.filter rightS)
theorem jnO_snoc (L : List Sg) (s : Sg) : jnO (L ++ [s]) = jnStep (jnO L) s := by simp [jnO]
theorem jnO_none {L : List Sg} : jnO L = none ↔ L = [] := by
  constructor
  · intro h
    rcases List.eq_nil_or_concat L with rfl | ⟨L', s, rfl⟩
    · rfl
    · rw [List.concat_eq_append, jnO_snoc] at h
      unfold jnStep at h
      split at h <;> cases h
  · rintro rfl
    rfl
theorem jnD_first {L : List Sg} {s : Sg} (h : L = []) : jnD (L ++ [s]) = s := by
  subst h
  rfl
theorem jnD_next {L : List Sg} {s : Sg} (h : L ≠ []) : jnD (L ++ [s]) = ⟨min (jnD L).fr s.fr, max (jnD L).to s.to⟩ := by
  unfold jnD
  rw [jnO_snoc]
  cases hj : jnO L with
  | none => exact absurd (jnO_none.1 hj) h
  | some o => rfl
theorem jnD_any {L : List Sg} {s : Sg} : jnD (L ++ [s]) = ⟨min (if L = [] then s else jnD L).fr s.fr, max (if L = [] then s else jnD L).to s.to⟩ := by
  by_cases h : L = []
  · rw [jnD_first h, if_pos h, Int.min_self, Int.max_self]
  · rw [jnD_next h, if_neg h]
set_option maxRecDepth 100000 in
set_option maxHeartbeats 4000000 in
theorem sJoin_any (v : Value) (l : List Sg) (w : World) (h : SgsAt w v l) (hl : l.length ≤ 100000) :
    Calls Try.prog 22 #[v] w fun e w' => e = .returned (sgv (joinS l)) ∧ Below w.heap.size w w' := by
  have H := Lib.hid h
  have HLl := Lib.hid hl
  clear h hl
  go_enter Try.func22, Try.ntmps22
  go_upto_region 1 with (fail)
  obtain ⟨hb0, hx⟩ := one_new w (.cells #[.int .i64 0, .int .i64 0] 23 (0, 0))
  refine gen_world (S := fun u => Below w.heap.size w u ∧ u.heap[w.heap.size]? = some (.cells #[.int .i64 0, .int .i64 0] 23 (0, 0))) ⟨hb0, hx⟩ (fun u hu => ?_)
  obtain ⟨hbu, hxu⟩ := hu
  have HX := Lib.hid hxu
  have HB := Lib.hid hbu
  obtain ⟨X, hX⟩ : ∃ X, X = w.heap.size := ⟨_, rfl⟩
  have HXe := Lib.hid hX
  rw [← hX] at HX ⊢
  clear hb0 hx hbu hxu hX
  go_wp2_with fail
  refine (right_any v l u (H.out.later HB.out) (by have := HLl.out; omega)).mono ?_
  rintro e u2 ⟨v1, rfl, ho, hb⟩
  obtain ⟨L, hL⟩ : ∃ L, L = l.filter rightS := ⟨_, rfl⟩
  have HL := Lib.hid hL
  rw [← hL] at ho
  obtain ⟨n, hn⟩ : ∃ n, n = L.length := ⟨_, rfl⟩
  have HN := Lib.hid hn
  have hnl : n ≤ 100000 := by
    have := List.length_filter_le rightS l
    have := HLl.out
    rw [hn, hL]
    omega
  have hrow := (show World.ownsRow _ _ _ _ _ _ _ from ho)
  rw [← hn] at hrow
  obtain ⟨va, vc, rfl⟩ := own_val hrow
  have HR2 := Lib.hid hrow
  have HX2 := Lib.hid ((hb.block _ (lt_of_block HX.out)).trans HX.out)
  have HB2 := Lib.hid (HB.out.trans (hb.mono HB.out.size))
  have HLt := Lib.hid (lt_of_block HX.out)
  generalize u.heap.size = B1 at HR2 HLt
  clear ho hb hL hn hrow HX HB
  go_wp2
  go_loopw [8] (fun i wr => ∃ k : Nat, k ≤ n ∧ i = .int .i64 k ∧ Hid (wr.ownsRow B1 53 2 (.slice va n vc) n (L.flatMap sgc)) ∧ Hid (wr.heap[X]? = some (.cells (sgc (jnD (L.take k))).toArray 23 (0, 0))) ∧ Hid (Below w.heap.size w wr)) (fun i _ => n - (intOf i).toNat)
  case atStart => exact ⟨0, by omega, rfl, HR2, HX2, HB2⟩
  case round =>
    clear HR2 HX2 HB2
    obtain ⟨k, hk, rfl, HR, HX, HB⟩ := hrel
    by_cases hlt : k < n
    · have hlt' : (k : Int) < n := by omega
      have hkL : k < L.length := by rw [← HN.out]; exact hlt
      have hsn : L.take (k + 1) = L.take k ++ [L[k]] := List.take_succ_eq_append_getElem hkL
      have hnil : L.take k = [] ↔ k = 0 := by
        constructor
        · intro h
          have := congrArg List.length h
          rw [List.length_take] at this
          simp only [List.length_nil] at this
          omega
        · rintro rfl
          rfl
      obtain ⟨g, hg⟩ : ∃ g, va = some ⟨g, 0, none⟩ := by
        obtain ⟨g, cap', e⟩ := own_shape2 HR.out (by omega)
        simp only [Value.slice.injEq] at e
        exact ⟨g, e.1⟩
      subst hg
      obtain ⟨c0, -⟩ := own_cellC sgc_len HR.out k hkL 0 (by omega)
      obtain ⟨c1, -⟩ := own_cellC sgc_len HR.out k hkL 1 (by omega)
      have hj := jnD_any (L := L.take k) (s := L[k])
      rw [← hsn] at hj
      obtain ⟨⟨sf, st⟩, hs⟩ : ∃ s, s = L[k] := ⟨_, rfl⟩
      rw [← hs] at c0 c1 hj
      replace c0 : wr.cell? ⟨g, k * 2, none⟩ = some (.int .i64 sf) := c0
      replace c1 : wr.cell? ⟨g, k * 2 + 1, none⟩ = some (.int .i64 st) := c1
      have HJ := Lib.hid hj
      have HNil := Lib.hid hnil
      clear hsn hnil hs hj
      go_upto_region 4 with (fail)
      obtain ⟨hb1, hg1⟩ := one_new wr (.cells #[.int .i64 sf, .int .i64 st] 53 (0, 0))
      refine gen_world (S := fun u => Below w.heap.size w u ∧ u.ownsRow B1 53 2 (.slice (some ⟨g, 0, none⟩) n vc) n (L.flatMap sgc) ∧ u.heap[X]? = some (.cells (sgc (jnD (L.take k))).toArray 23 (0, 0)) ∧ u.heap[wr.heap.size]? = some (.cells #[.int .i64 sf, .int .i64 st] 53 (0, 0)) ∧ X ≠ wr.heap.size) ⟨HB.out.trans (hb1.mono HB.out.size), (Keeps.ofNew hb1 (fun _ => False)).row HR.out (fun _ _ h => h), (hb1.block _ (lt_of_block HX.out)).trans HX.out, hg1, by have := lt_of_block HX.out; omega⟩ (fun u5 hu => ?_)
      obtain ⟨hbu, hru, hxu, hyu, hne⟩ := hu
      have HBu := Lib.hid hbu
      have HRu := Lib.hid hru
      have HXu := Lib.hid hxu
      obtain ⟨y0, y1⟩ := two_box hyu
      generalize wr.heap.size = Y at hyu y0 y1 hne ⊢
      have HYu := Lib.hid hyu
      obtain ⟨⟨jf, jt⟩, hjd⟩ : ∃ j, j = jnD (L.take k) := ⟨_, rfl⟩
      rw [← hjd] at hxu HXu HJ
      have HXu2 := Lib.hid (show u5.heap[X]? = some (.cells #[.int .i64 jf, .int .i64 jt] 23 (0, 0)) from hxu)
      clear hb1 hg1 hbu hru hxu hyu HB HR HX c0 c1 hjd HXu
      obtain ⟨x0, x1⟩ := two_box HXu2.out
      obtain ⟨f0, f1⟩ := two_froz HXu2.out
      by_cases hk0 : k = 0
      · have q0 : ((k : Int) == 0) = true := by simp; omega
        have q0' : decide ((k : Int) = 0) = true := by simp; omega
        have hjn := HJ.out
        rw [if_pos (HNil.out.2 hk0)] at hjn
        simp only [Int.min_self, Int.max_self] at hjn
        have HJn := Lib.hid hjn
        obtain ⟨s1, hs1⟩ := set2 HXu2.out (.int .i64 sf) (.int .i64 st)
        obtain ⟨s2, hs2⟩ := set2 s1 (.int .i64 sf) (.int .i64 st)
        have HS2 := Lib.hid s2
        have HK := Lib.hid (hs1.trans hs2)
        have hmn : min sf sf = sf := Int.min_self _
        have hmx : max st st = st := Int.max_self _
        obtain ⟨t0, t1⟩ := two_box s1
        clear hjn s1 hs1 s2 hs2 hk0
        go_wp2
        go_roundw
        case rel => exact ⟨k + 1, by omega, by go_num, Lib.hid (HK.out.row HRu.out (fun b hb e => by subst e; have := (HRu.out.lt _ hb).1; have := HLt.out; omega)), Lib.hid (by rw [HJn.out]; exact HS2.out), Lib.hid (HBu.out.trans (HK.out.below HBu.out.size (fun k e => by have := HXe.out; omega)))⟩
        case measure => simp [intOf]; omega
      · have q0 : ((k : Int) == 0) = false := by simp; omega
        have q0' : decide ((k : Int) = 0) = false := by simp; omega
        have hjn := HJ.out
        rw [if_neg (fun h => hk0 (HNil.out.1 h))] at hjn
        obtain ⟨mn, hmn⟩ : ∃ mn, mn = min jf sf := ⟨_, rfl⟩
        obtain ⟨mx, hmx⟩ : ∃ mx, mx = max jt st := ⟨_, rfl⟩
        simp only [← hmn, ← hmx] at hjn
        have HJn := Lib.hid hjn
        obtain ⟨s2, hs2⟩ := set2 HXu2.out (.int .i64 mn) (.int .i64 mx)
        have HS2 := Lib.hid s2
        have HK := Lib.hid hs2
        have a1 := min_if' jf sf
        have a2 := max_if' jt st
        rw [← hmn] at a1
        rw [← hmx] at a2
        have a3 := hmn.symm
        have a4 := hmx.symm
        clear hjn s2 hs2 hk0 hmn hmx
        go_wp2
        go_roundw
        case rel => exact ⟨k + 1, by omega, by go_num, Lib.hid (HK.out.row HRu.out (fun b hb e => by subst e; have := (HRu.out.lt _ hb).1; have := HLt.out; omega)), Lib.hid (by rw [HJn.out]; exact HS2.out), Lib.hid (HBu.out.trans (HK.out.below HBu.out.size (fun k e => by have := HXe.out; omega)))⟩
        case measure => simp [intOf]; omega
    · have hlt' : ¬ (k : Int) < n := by omega
      obtain ⟨⟨jf, jt⟩, hjd⟩ : ∃ j, j = jnD (L.take k) := ⟨_, rfl⟩
      have HJe := Lib.hid (show joinS l = ⟨jf, jt⟩ from by
        rw [hjd, List.take_of_length_le (by rw [← HN.out]; omega), HL.out]
        rfl)
      have hx := HX.out
      rw [← hjd] at hx
      replace hx : wr.heap[X]? = some (.cells #[.int .i64 jf, .int .i64 jt] 23 (0, 0)) := hx
      obtain ⟨x0, x1⟩ := two_box hx
      obtain ⟨f0, f1⟩ := two_froz hx
      obtain ⟨s2, hs2⟩ := set2 hx (.int .i64 jf) (.int .i64 jt)
      obtain ⟨g0, g1⟩ := two_box s2
      have HBf := Lib.hid (HB.out.trans (hs2.below HB.out.size (fun k e => by have := HXe.out; omega)))
      clear hjd hx s2 hs2
      go_wp2
      refine bodyPost_ret (v := .agg #[.int .i64 jf, .int .i64 jt]) (by simp [results, Try.f22, go_sem, g0, g1]) rfl ⟨?_, HBf.out⟩
      rw [HJe.out]
end Go.Proofs.Ytndminmefacmnaa
