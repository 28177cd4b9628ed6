import Derived.Test.YtadkjjpopmiceaaGreatRflm
namespace Go.Proofs.YtadkjjpopmiceaaGreat
open Go.RowKit Go.Lib

set_option maxRecDepth 100000 in
set_option maxHeartbeats 1000000 in
theorem sClone_any {l : List Tw} (v : Value) (w : World) (h : TwAt w v l) (hl : l.length ≤ 1000000) :
    Calls Tryz.prog 61 #[v] w fun en w' => ToldT w l en w' := by
  obtain ⟨ao, cap, rfl⟩ := h.val
  obtain ⟨-, hlc, hcm, hnil, hnews⟩ := rows_news twc_len (by omega) h
  obtain ⟨n, hn⟩ : ∃ n, n = l.length := ⟨_, rfl⟩
  have HN := Lib.hid hn
  rw [← hn] at hl hnil h ⊢
  have H := Lib.hid h
  have Hnil := Lib.hid hnil
  clear h hn hnews hnil
  obtain ⟨i0, hi0, hz0, hz1, hz2⟩ := info_parts Tryz.infoTwig
  have qT : ∀ (w : World) (a : Option Addr) (n c : Nat), (binOp .eql 22 (.slice a n c) (.slice none 0 0)).run Tryz.prog w = .ok (.bool a.isNone) w := fun w a n c => Lib.run_eql_slice_nil w _ _ a n c 0 0 Tryz.underlying22
  cases ao with
  | none =>
    obtain ⟨h0, h1⟩ := Hnil.out rfl
    subst h0
    subst h1
    have HNl := Lib.hid (show l = [] from List.eq_nil_of_length_eq_zero HN.out.symm)
    go_enter Tryz.func61, Tryz.ntmps61
    go_wp2
    go_ret
    rw [HNl.out]
    exact ⟨_, rfl, World.ownsRow_nil _ _ _ _, Below.refl _ _⟩
  | some ad =>
    have hal : Below w.heap.size w (w.alloc (.cells #[] 45)) := (Below.refl _ _).alloc (Nat.le_refl _) _
    obtain ⟨-, -, -, -, hnews⟩ := rows_news twc_len (by omega) (H.out.later hal)
    have HNews := Lib.hid hnews
    have HOwn := Lib.hid (show (w.alloc (.cells #[] 45)).ownsRow w.heap.size 45 5 (.slice (some ⟨w.heap.size, 0, none⟩) 0 0) 0 [] from own_shut rfl (Nat.le_refl _) (heap_alloc_new w _) (Nat.le_refl _) (Nat.zero_le _) rfl rfl)
    have HHal := Lib.hid hal
    clear hnews hal
    go_enter Tryz.func61, Tryz.ntmps61
    go_wp2_with (at_builtin; refine wpList_append_mine _ rfl (.tmp 5) (.tmp 6) 22 rfl w.heap.size 45 i0 _ 5 40 Tryz.underlying22 hi0 hz0 hz1 hz2 rfl (by decide) _ 0 [] rfl HOwn.out (some ad) n cap (tvs l) rfl (by rw [flat_len twc_len, HN.out]) (fun h => by cases h) HNews.out (flat_one twc_one l) (by unfold maxLen; omega) (by omega) (by simp) ?_; intro v' w1 hown' hgrow hfr; obtain ⟨aov, capv, rfl⟩ := own_val hown'; have HO := Lib.hid hown'; have HG := Lib.hid hgrow; clear hown' hgrow hfr)
    go_ret
    refine ⟨_, rfl, ?_, HHal.out.grown HG.out HHal.out.size (fun r hr => by cases hr; exact Nat.le_refl _)⟩
    unfold TwOwn
    rw [← HN.out]
    have := HO.out
    simpa using this
theorem TwAt.part {w : World} {b off n cap : Nat} {l : List Tw} (h : TwAt w (.slice (some ⟨b, off, none⟩) n cap) l) {i j c : Nat} (hij : i < j) (hj : j ≤ n) (hc : j - i ≤ c ∧ c ≤ maxLen) : TwAt w (.slice (some ⟨b, off + i * 5, none⟩) (j - i) c) ((l.drop i).take (j - i)) := by
  obtain ⟨rfl, h1, h2, h3, h4⟩ := h.cells
  have hlen : ((l.drop i).take (j - i)).length = j - i := by simp; omega
  have hb : b < w.heap.size := by
    obtain ⟨b', off', he, hb, -⟩ := h4 i (by omega)
    simp only [Option.some.injEq, Addr.mk.injEq, and_true] at he
    rw [he.1]
    exact hb
  refine ⟨some ⟨b, off + i * 5, none⟩, b, off + i * 5, c, by rw [List.length_map, hlen], by rw [List.length_map, hlen]; exact hc.1, hc.2, (fun h => by cases h), fun _ => ⟨rfl, hb⟩, (fun e he => by obtain ⟨x, -, rfl⟩ := List.mem_map.1 he; exact twc_len x), fun q hq r hr => ?_⟩
  rw [List.length_map, hlen] at hq
  obtain ⟨b', off', he, -, e0, e1, e2, e3, e4⟩ := h4 (i + q) (by omega)
  simp only [Option.some.injEq, Addr.mk.injEq, and_true] at he
  obtain ⟨rfl, rfl⟩ := he
  have hg : ((l.drop i).take (j - i))[q]'(by rw [hlen]; exact hq) = l[i + q]'(by omega) := by simp
  rw [List.getElem_map, hg]
  have ha : off + i * 5 + q * 5 = off + (i + q) * 5 := by omega
  rw [ha]
  match r, hr with
  | 0, _ => exact e0
  | 1, _ => exact e1
  | 2, _ => exact e2
  | 3, _ => exact e3
  | 4, _ => exact e4
def subR (l : List Tw) (n : Int) : List Tw := if hasR l n = true then (l.drop n.toNat).take (sizR l n) else []
set_option maxHeartbeats 2000000 in
theorem tSub_any (v : Value) (l : List Tw) (n : Int) (w : World) (h : TwRow w v l) :
    Calls Tryz.prog 24 #[v, .int .i64 n] w fun e w' => ToldT w (subR l n) e w' := by
  have HH := Lib.hid (has_any v n w h)
  have H := Lib.hid h
  obtain ⟨ao, cap, rfl⟩ := h.at'.val
  have hl := h.len
  obtain ⟨len, hlen⟩ : ∃ len, len = l.length := ⟨_, rfl⟩
  have HLe := Lib.hid hlen
  rw [← hlen] at HH H hl ⊢
  clear h hlen
  cases hh : hasR l n with
  | false =>
    rw [hh] at HH
    have HV := Lib.hid (show subR l n = [] from by unfold subR; rw [hh]; rfl)
    clear hh
    go_enter Tryz.func24, Tryz.ntmps24
    go_wp2_with fail
    refine HH.out.mono ?_
    rintro e w1 ⟨rfl, hb⟩
    go_wp2
    go_ret
    refine ⟨_, rfl, ?_, hb⟩
    rw [HV.out]
    exact World.ownsRow_nil _ _ _ _
  | true =>
    obtain ⟨k, rfl, hk, hr⟩ := hasR_at hh
    rw [hh] at HH
    obtain ⟨m, ks, hs⟩ := ((rightB_iff l).1 hr).sub hk
    have hlt := hs.lt
    obtain ⟨hl1, hl2⟩ := hlt
    have HV := Lib.hid (show subR l k = (l.drop k).take (m - k) from by unfold subR; rw [if_pos hh, sizR_at hh hs, Int.toNat_natCast])
    have HS := Lib.hid hs
    have hcc := H.out.at'.cells
    obtain ⟨-, hc1, hc2, -, hc4⟩ := hcc
    obtain ⟨tb, toff, rfl, -, -⟩ := hc4 k hk
    rw [← HLe.out] at hk hl2 hc1
    unfold maxLen at hc2
    have h1 : (k : Int) ≤ m := by omega
    have h2 : (m : Int) ≤ cap := by omega
    have h3 : (m : Int) ≤ len := by omega
    have h4 : ¬ cap - k = 0 := by omega
    have h5 : (0 : Int) ≤ k := by omega
    clear hh hr hs hc4
    go_enter Tryz.func24, Tryz.ntmps24
    go_wp2_with fail
    refine HH.out.mono ?_
    rintro e w1 ⟨rfl, hb⟩
    have HB := Lib.hid hb
    have HT1 := Lib.hid (H.out.later hb)
    have HA := Lib.hid (after_any _ w1 HT1.out.at' HS.out H.out.len)
    clear hb HH
    go_wp2_with fail
    refine HA.out.mono ?_
    rintro e w2 ⟨rfl, rfl⟩
    have HC := Lib.hid (sClone_any _ w1 (HT1.out.at'.part (i := k) (j := m) (c := cap - k) hl1 hl2 ⟨by omega, by unfold maxLen; omega⟩) (by have := HT1.out.len; simp; omega))
    go_wp2_with fail
    refine HC.out.mono ?_
    rintro e w3 ⟨v', rfl, ho, hb⟩
    rw [← HV.out] at ho
    have HO := Lib.hid (show TwOwn w.heap.size w3 v' (subR l k) from ownsRow_base ho HB.out.size)
    have HB3 := Lib.hid (HB.out.trans (hb.mono HB.out.size))
    unfold TwOwn at ho
    obtain ⟨va, vc, rfl⟩ := own_val ho
    clear ho hb HC
    go_wp2
    go_ret
    exact ⟨_, rfl, HO.out, HB3.out⟩
set_option maxRecDepth 100000 in
set_option maxHeartbeats 2000000 in
theorem tPlain_any (v : Value) (l : List Tw) (w : World) (h : TwAt w v l) (hl : l.length ≤ 1000000) :
    Calls Tryz.prog 13 #[v] w fun e w' => ToldT w (plainL l) e w' := by
  have H := Lib.hid h
  obtain ⟨ao, cap, rfl⟩ := h.val
  obtain ⟨len, hlen⟩ : ∃ len, len = l.length := ⟨_, rfl⟩
  have HLe := Lib.hid hlen
  rw [← hlen] at H hl ⊢
  clear h hlen
  obtain ⟨i0, hi0, hz0, hz1, hz2⟩ := info_parts Tryz.infoTwig
  go_enter Tryz.func13, Tryz.ntmps13
  go_wp2
  go_loopw [2, 7] (fun v i wr => ∃ k : Nat, k ≤ len ∧ i = .int .i64 k ∧ Hid (wr.ownsRow w.heap.size 45 5 v k (tvs (plainL (l.take k)))) ∧ Below w.heap.size w wr) (fun _ i _ => len - (intOf i).toNat)
  case atStart => exact ⟨0, by omega, rfl, Lib.hid (World.ownsRow_nil _ _ _ _), Below.refl _ _⟩
  case round =>
    obtain ⟨k, hk, rfl, HO, hbel⟩ := hrel
    have HB := Lib.hid hbel
    obtain ⟨va, vc, rfl⟩ := own_val HO.out
    by_cases hlt : k < len
    · have hlt' : (k : Int) < len := by omega
      have hkL : k < l.length := by rw [← HLe.out]; exact hlt
      obtain ⟨tb, toff, rfl, -, c0, c1, c2, c3, c4⟩ := (H.out.later hbel).cells.2.2.2.2 k hkL
      rw [← atT_get l hkL] at c0 c1 c2 c3 c4
      have hsc := plain_succ hkL
      obtain ⟨ru, hru⟩ : ∃ x, x = (atT l k).rule := ⟨_, rfl⟩
      obtain ⟨lv, hlv⟩ : ∃ x, x = (atT l k).lev := ⟨_, rfl⟩
      obtain ⟨fr, hfr⟩ : ∃ x, x = (atT l k).fr := ⟨_, rfl⟩
      obtain ⟨tz, htz⟩ : ∃ x, x = (atT l k).to := ⟨_, rfl⟩
      obtain ⟨kk, hkk⟩ : ∃ x, x = (atT l k).kids := ⟨_, rfl⟩
      unfold pln at hsc
      rw [← hru] at c0 hsc
      rw [← hlv] at c1
      rw [← hfr] at c2 hsc
      rw [← htz] at c3 hsc
      rw [← hkk] at c4 hsc
      have HSc := Lib.hid hsc
      have hsz := HB.out.size
      clear hru hlv hfr htz hkk hsc hbel
      go_upto_region 4 with (fail)
      refine gen_world (S := fun u => Below wr.heap.size wr u ∧ u.heap[wr.heap.size]? = some (.cells #[.int .i64 ru, .int .i64 lv, .int .i64 fr, .int .i64 tz, .int .i64 kk] 45 (0, 0))) (one_new wr _) (fun u hu => ?_)
      obtain ⟨hbu, hx⟩ := hu
      have HBu := Lib.hid (HB.out.trans (hbu.mono HB.out.size))
      have HOu := Lib.hid (row_later HO.out hbu)
      obtain ⟨X, hX⟩ : ∃ X, X = wr.heap.size := ⟨_, rfl⟩
      have HNX := Lib.hid hX
      rw [← hX] at hx hsz ⊢
      have HXw := Lib.hid hsz
      have HXb := Lib.hid hx
      clear c0 c1 c2 c3 c4 hbu hX
      obtain ⟨x0, x1, x2, x3, x4⟩ := five_box hx
      have f1 := (block_cell' hx 1).2
      clear hx
      go_upto_region 5 with (fail)
      refine gen_world (S := fun u2 => Below w.heap.size w u2 ∧ u2.heap[X]? = some (.cells #[.int .i64 ru, .int .i64 0, .int .i64 fr, .int .i64 tz, .int .i64 kk] 45 (0, 0)) ∧ u2.ownsRow w.heap.size 45 5 (.slice va k vc) k (tvs (plainL (l.take k)))) ⟨HBu.out.setCell (p := ⟨X, 1, none⟩) HXw.out _, block_setCell' HXb.out, ((Keeps.refl (fun b => b = X) u).setCell (p := ⟨X, 1, none⟩) rfl _).row HOu.out (fun b hb e => by have := (HO.out.lt b hb).2; have := HNX.out; omega)⟩ (fun u2 hu => ?_)
      obtain ⟨hb2, hx2, ho2⟩ := hu
      clear x0 x1 x2 x3 x4 f1
      have HB2 := Lib.hid hb2
      have HO2 := Lib.hid ho2
      obtain ⟨x0, x1, x2, x3, x4⟩ := five_box hx2
      clear hb2 hx2 ho2
      go_wp2_with (at_builtin; refine wpList_append_own _ rfl (.tmp 12) (.tmp 14) 22 rfl w.heap.size 45 i0 _ 5 40 Tryz.underlying22 hi0 hz0 hz1 hz2 rfl (by decide) _ k _ rfl (HO2.out.alloc _) ⟨u2.heap.size, 0, none⟩ 1 1 (twc ⟨ru, 0, fr, tz, kk⟩) rfl rfl (World.news_of_block (cs := (twc ⟨ru, 0, fr, tz, kk⟩).toArray) (t := 45) (fr := (0, 0)) (heap_alloc_new u2 _)) (twc_one _) (by unfold maxLen; omega) (by omega) (by simp; have := HB2.out.size; omega) ?_; intro v' w3 hown' hgrow _)
      have HB3 := Lib.hid ((HB2.out.alloc HB2.out.size _).grown hgrow (by simp; have := HB2.out.size; omega) (fun r hr => (HO2.out.lt r hr).1))
      have HO3 := Lib.hid (show w3.ownsRow w.heap.size 45 5 v' (k + 1) (tvs (plainL (l.take (k + 1)))) from by rw [HSc.out, tvs, List.flatMap_append]; exact hown')
      clear hown' hgrow x0 x1 x2 x3 x4
      go_wp2
      go_roundw
      case rel => exact ⟨k + 1, by omega, by go_num, HO3, HB3.out⟩
      case measure => simp [intOf]; omega
    · have hlt' : ¬ (k : Int) < len := by omega
      obtain rfl : k = len := by omega
      go_wp2
      go_ret
      refine ⟨_, rfl, ?_, HB.out⟩
      have := HO.out
      rw [List.take_of_length_le (by rw [← HLe.out]; exact Nat.le_refl _)] at this
      unfold TwOwn
      rw [show (plainL l).length = k from by simp [plainL, HLe.out]]
      exact this
end Go.Proofs.YtadkjjpopmiceaaGreat
