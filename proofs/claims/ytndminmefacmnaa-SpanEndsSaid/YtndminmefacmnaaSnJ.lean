/-
  Rows of spans; those that are right; those that are not empty.
-/
import Derived.Test.YtndminmefacmnaaSnI
namespace Go.Proofs.Ytndminmefacmnaa
open Go.RowKit Go.Lib

/-- a slice of spans, read. -/
def SgsAt (w : World) (v : Value) (l : List Sg) : Prop := RowsAt w 2 v (l.map sgc)
theorem SgsAt.later {w w' : World} {v : Value} {l : List Sg} (h : SgsAt w v l) (hb : Below w.heap.size w w') : SgsAt w' v l := RowsAt.later h hb
theorem SgsAt.val {w : World} {v : Value} {l : List Sg} (h : SgsAt w v l) : ∃ ao cap, v = .slice ao l.length cap := by
  obtain ⟨ao, cap, h⟩ := RowsAt.val h
  exact ⟨ao, cap, by simpa using h⟩
theorem SgsAt.cells {w : World} {ao : Option Addr} {n cap : Nat} {l : List Sg} (h : SgsAt w (.slice ao n cap) l) : n = l.length ∧ l.length ≤ cap ∧ cap ≤ maxLen ∧ (ao = none → n = 0 ∧ cap = 0) ∧ ∀ i (hi : i < l.length), ∃ b off, ao = some ⟨b, off, none⟩ ∧ b < w.heap.size ∧
    w.cell? ⟨b, off + i * 2, none⟩ = some (.int .i64 l[i].fr) ∧ w.cell? ⟨b, off + i * 2 + 1, none⟩ = some (.int .i64 l[i].to) := by
  obtain ⟨ao', b, off, cap', he, hl, hm, hn, ha, _, hc⟩ := h
  simp only [Value.slice.injEq, List.length_map] at he hl hn ha hc
  obtain ⟨rfl, rfl, rfl⟩ := he
  refine ⟨rfl, hl, hm, hn, fun i hi => ⟨b, off, (ha (by omega)).1, (ha (by omega)).2, ?_⟩⟩
  have h := fun j hj => hc i hi j hj
  simp only [List.getElem_map] at h
  exact ⟨h 0 (by omega), h 1 (by omega)⟩
theorem Try.infoLine : (Try.prog.info? 53).map (fun i => (i.zero, i.size, i.bytes)) = some (some (.agg #[.int .i64 0, .int .i64 0]), 2, 16) := by kernel_rfl
theorem Try.infoSpan : (Try.prog.info? 23).map (fun i => (i.zero, i.size, i.bytes)) = some (some (.agg #[.int .i64 0, .int .i64 0]), 2, 16) := by kernel_rfl
/-- a row of lines of the call's own. -/
def LnOwn (B : Nat) (w : World) (v : Value) (l : List Sg) : Prop := w.ownsRow B 53 2 v l.length (l.flatMap sgc)
def SgOwn (B : Nat) (w : World) (v : Value) (l : List Sg) : Prop := w.ownsRow B 23 2 v l.length (l.flatMap sgc)
theorem LnOwn.later {B : Nat} {w w' : World} {v : Value} {l : List Sg} (h : LnOwn B w v l) (hb : Below w.heap.size w w') : LnOwn B w' v l := (Keeps.ofNew hb (fun _ => False)).row h (fun _ _ h => h)
theorem SgOwn.later {B : Nat} {w w' : World} {v : Value} {l : List Sg} (h : SgOwn B w v l) (hb : Below w.heap.size w w') : SgOwn B w' v l := (Keeps.ofNew hb (fun _ => False)).row h (fun _ _ h => h)
theorem SgOwn.at {B : Nat} {w : World} {v : Value} {l : List Sg} (h : SgOwn B w v l) : SgsAt w v l := own_rows sgc_len rfl h
theorem filt_succ {l : List Sg} {k : Nat} (h : k < l.length) : (l.take (k + 1)).filter rightS = (l.take k).filter rightS ++ if rightS l[k] then [l[k]] else [] := by
  rw [List.take_succ_eq_append_getElem h, List.filter_append]
  congr 1
  cases hr : rightS l[k] <;> simp [hr]
set_option maxRecDepth 100000 in
set_option maxHeartbeats 2000000 in
theorem right_any (v : Value) (l : List Sg) (w : World) (h : SgsAt w v l) (hl : l.length ≤ 1000000) :
    Calls Try.prog 35 #[v] w fun e w' => ∃ v', e = .returned v' ∧ LnOwn w.heap.size w' v' (l.filter rightS) ∧ Below w.heap.size w w' := by
  have H := Lib.hid h
  obtain ⟨ao, cap, rfl⟩ := h.val
  obtain ⟨len, hlen⟩ : ∃ len, len = l.length := ⟨_, rfl⟩
  have HLe := Lib.hid hlen
  rw [← hlen] at H hl ⊢
  clear h hlen
  obtain ⟨i0, hi0, hz0, hz1, hz2⟩ := info_parts Try.infoLine
  go_enter Try.func35, Try.ntmps35
  go_wp2
  go_loopw [2, 7] (fun v i wr => ∃ (k n : Nat), k ≤ len ∧ n ≤ k ∧ i = .int .i64 k ∧ Hid (n = ((l.take k).filter rightS).length) ∧ Hid (wr.ownsRow w.heap.size 53 2 v n (((l.take k).filter rightS).flatMap sgc)) ∧ Below w.heap.size w wr) (fun _ i _ => len - (intOf i).toNat)
  case atStart => exact ⟨0, 0, by omega, by omega, rfl, Lib.hid (by simp), Lib.hid (World.ownsRow_nil _ _ _ _), Below.refl _ _⟩
  case round =>
    obtain ⟨k, n, hk, hnk, rfl, HNe, HO, hbel⟩ := hrel
    have HB := Lib.hid hbel
    obtain ⟨va, vc, rfl⟩ := own_val HO.out
    by_cases hlt : k < len
    · have hlt' : (k : Int) < len := by omega
      have hkL : k < l.length := by rw [← HLe.out]; exact hlt
      obtain ⟨tb, toff, rfl, -, c0, c1⟩ := (H.out.later hbel).cells.2.2.2.2 k hkL
      have hsc := filt_succ hkL
      obtain ⟨⟨fr, tz⟩, hs⟩ : ∃ s, s = l[k] := ⟨_, rfl⟩
      rw [← hs] at c0 c1 hsc
      simp only at c0 c1
      have HSc := Lib.hid hsc
      clear hs hsc hbel
      go_upto_region 4 with (fail)
      obtain ⟨hb1, hg1⟩ := one_new wr (.cells #[.int .i64 fr, .int .i64 tz] 23 (0, 0))
      refine gen_world (S := fun u => Below w.heap.size w u ∧ u.ownsRow w.heap.size 53 2 (.slice va n vc) n (((l.take k).filter rightS).flatMap sgc) ∧ u.heap[wr.heap.size]? = some (.cells #[.int .i64 fr, .int .i64 tz] 23 (0, 0))) ⟨HB.out.trans (hb1.mono HB.out.size), (Keeps.ofNew hb1 (fun _ => False)).row HO.out (fun _ _ h => h), hg1⟩ (fun u hu => ?_)
      obtain ⟨hbu, hou, hgu⟩ := hu
      have HBu := Lib.hid hbu
      have HOu := Lib.hid hou
      have HGu := Lib.hid hgu
      obtain ⟨x0, x1⟩ := two_box hgu
      generalize wr.heap.size = X at HGu x0 x1 ⊢
      clear hb1 hg1 hbu hou hgu HB HO c0 c1
      have HR := Lib.hid (sRight_any fr tz u)
      cases hr : srB fr tz
      · rw [hr] at HR
        have hsn : (l.take (k + 1)).filter rightS = (l.take k).filter rightS := by
          rw [HSc.out, ← srB_eq, hr]
          simp
        have HSn := Lib.hid hsn
        clear hr hsn
        go_wp2_with fail
        refine HR.out.mono ?_
        rintro e u2 ⟨rfl, hb⟩
        have HB2 := Lib.hid (HBu.out.trans (hb.mono HBu.out.size))
        have HO2 := Lib.hid ((Keeps.ofNew hb (fun _ => False)).row HOu.out (fun _ _ h => h))
        clear hb x0 x1
        go_wp2
        go_roundw
        case rel => exact ⟨k + 1, n, by omega, by omega, by go_num, Lib.hid (by rw [HSn.out]; exact HNe.out), Lib.hid (by rw [HSn.out]; exact HO2.out), HB2.out⟩
        case measure => simp [intOf]; omega
      · rw [hr] at HR
        have hsn : (l.take (k + 1)).filter rightS = (l.take k).filter rightS ++ [⟨fr, tz⟩] := by
          rw [HSc.out, ← srB_eq, hr]
          simp
        have HSn := Lib.hid hsn
        clear hr hsn
        go_wp2_with fail
        refine HR.out.mono ?_
        rintro e u2 ⟨rfl, hb⟩
        have HB2 := Lib.hid (HBu.out.trans (hb.mono HBu.out.size))
        have HO2 := Lib.hid ((Keeps.ofNew hb (fun _ => False)).row HOu.out (fun _ _ h => h))
        have hg2 := (hb.block _ (lt_of_block HGu.out)).trans HGu.out
        clear hb x0 x1
        obtain ⟨x0, x1⟩ := two_box hg2
        clear hg2
        go_wp2_with (at_builtin; refine wpList_append_own _ rfl (.tmp 13) (.tmp 15) 51 rfl w.heap.size 53 i0 _ 2 16 Try.underlying51 hi0 hz0 hz1 hz2 rfl (by decide) _ n _ rfl (HO2.out.alloc _) ⟨u2.heap.size, 0, none⟩ 1 1 [.int .i64 fr, .int .i64 tz] rfl rfl (World.news_of_block (cs := #[.int .i64 fr, .int .i64 tz]) (t := 53) (fr := (0, 0)) (heap_alloc_new u2 _)) (by simp [Value.oneCell']) (by unfold maxLen; omega) (by omega) (by have := HB2.out.size; simp; omega) ?_; intro v' w1 hown' hgrow _)
        have HB6 := Lib.hid ((HB2.out.alloc HB2.out.size _).grown hgrow (by have := HB2.out.size; simp; omega) (fun r hr => (HO2.out.lt r hr).1))
        have HO6 := Lib.hid (show w1.ownsRow w.heap.size 53 2 v' (n + 1) (((l.take (k + 1)).filter rightS).flatMap sgc) from by
          rw [HSn.out, List.flatMap_append]
          simpa [sgc] using hown')
        clear hown' hgrow HB2 HO2 x0 x1
        go_wp2
        go_roundw
        case rel => exact ⟨k + 1, n + 1, by omega, by omega, by go_num, Lib.hid (by rw [HSn.out, List.length_append, ← HNe.out]; rfl), HO6, HB6.out⟩
        case measure => simp [intOf]; omega
    · have hlt' : ¬ (k : Int) < len := by omega
      have HT := Lib.hid (show l.take k = l from List.take_of_length_le (by rw [← HLe.out]; omega))
      go_wp2
      go_ret
      refine ⟨_, rfl, ?_, hbel⟩
      have h1 := HO.out
      have h2 := HNe.out
      rw [HT.out] at h1 h2
      unfold LnOwn
      rw [← h2]
      exact h1
end Go.Proofs.Ytndminmefacmnaa
