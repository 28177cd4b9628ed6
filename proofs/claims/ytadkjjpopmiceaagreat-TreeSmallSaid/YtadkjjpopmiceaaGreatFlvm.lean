import Derived.Test.YtadkjjpopmiceaaGreatFlhm
import Derived.Test.YtadkjjpopmiceaaGreatTwsTm
namespace Go.Proofs.YtadkjjpopmiceaaGreat
open Go.RowKit Go.Lib

theorem markI_c (k i : Int) (w : World) (hk : 0 ≤ k ∧ k ≤ 10) (hi : 0 ≤ i ∧ i ≤ 4000000) : Calls Tryz.prog 84 #[.int .i64 k, .int .i64 i] w fun e w' => e = .returned (.int .i64 (1000003 * (k + 7) + i)) ∧ Below w.heap.size w w' := ((tmark_any k i w hk hi).mono fun e w' hh => ⟨hh.1, hh.2 ▸ Below.refl _ _⟩)
theorem Tryz.infoSlI : (Tryz.prog.info? 27).map (fun i => (i.zero, i.size, i.bytes)) = some (some (.slice none 0 0), 1, 24) := by kernel_rfl
theorem madeI (n : Nat) : (madeCells (.int .i64 0 : Value).cells (n * 1)).toList = (List.replicate n (0 : Int)).flatMap inc := by
  have hc : (.int .i64 0 : Value).cells = #[.int .i64 0] := rfl
  rw [hc, toList_madeCells_one, Nat.mul_one]
  induction n with
  | zero => rfl
  | succ n ih => rw [List.replicate_succ, List.replicate_succ, ih]; rfl
set_option maxRecDepth 100000 in
set_option maxHeartbeats 16000000 in
theorem flatI_any {K : List (Nat × Obj)} {B m : Nat} {V : Value} {vs : List Value} {nn : Nat → Nat} {F0 : Nat → List Int} (w : World) (h : FsI K B w V vs m nn F0) (hm : m ≤ 3) (hnn : ∀ j, j < m → nn j ≤ 1000000) :
    Calls Tryz.prog 90 #[V] w fun e w' => e = .returned (.bool true) ∧ Below B w w' ∧ ∀ q ∈ K, w'.heap[q.1]? = some q.2 := by
  have H0 := Lib.hid h
  have hls := h.ls
  obtain ⟨va, vcp, rfl⟩ := own_val hls
  have HNn := Lib.hid hnn
  clear h hls hnn
  obtain ⟨i0, hi0, hz0, hz1, hz2⟩ := info_parts Tryz.infoInt
  obtain ⟨i1, hi1, hs0, hs1, hs2⟩ := info_parts Tryz.infoSlI
  go_enter Tryz.func90, Tryz.ntmps90
  go_wp2
  go_loopw [3] (fun i wr => ∃ (k : Nat) (F : Nat → List Int), k ≤ m ∧ i = .int .i64 k ∧ Hid (FsI K B wr (.slice va m vcp) vs m nn F) ∧ Hid (∀ j, j < k → F j = mksI j (nn j)) ∧ Below B w wr) (fun i _ => m - (intOf i).toNat)
  case atStart => exact ⟨0, F0, by omega, rfl, H0, Lib.hid (fun j hj => absurd hj (by omega)), Below.refl _ _⟩
  case round => as_aux_lemma =>
    obtain ⟨k, F, hk, rfl, HF, HP, hbel⟩ := hrel
    have HB := Lib.hid hbel
    clear hbel
    by_cases hlt : k < m
    · have hlt' : (k : Int) < m := by omega
      obtain ⟨lb, rfl, hlb, c0, -⟩ := FsI.cell HF.out.ls HF.out.len hlt
      have hrow := HF.out.rw k hlt
      obtain ⟨sa, sc, hsl⟩ := own_val hrow
      have hn1 := HNn.out k hlt
      obtain ⟨n, hn⟩ : ∃ n, n = nn k := ⟨_, rfl⟩
      rw [← hn] at hsl hn1
      rw [hsl] at c0
      have HSl := Lib.hid hsl
      have HN := Lib.hid hn
      clear hrow hsl hn c0 hlb
      go_wp2
      go_loopw [4] (fun i wr => ∃ (q : Nat) (F : Nat → List Int), q ≤ n ∧ i = .int .i64 q ∧ Hid (FsI K B wr (.slice (some ⟨lb, 0, none⟩) m vcp) vs m nn F) ∧ Hid (∀ j, j < k → F j = mksI j (nn j)) ∧ Hid ((F k).take q = mksI k q) ∧ Below B w wr) (fun i _ => n - (intOf i).toNat)
      case atStart => exact ⟨0, F, by omega, rfl, HF, HP, Lib.hid (by simp [mksI]), HB.out⟩
      case round => as_aux_lemma =>
        obtain ⟨q, F, hq, rfl, HF, HP, HT, hbel⟩ := hrel
        have HB := Lib.hid hbel
        clear hbel
        obtain ⟨lb', he, hlb, c0, -⟩ := FsI.cell HF.out.ls HF.out.len hlt
        simp only [Option.some.injEq, Addr.mk.injEq, and_true] at he
        subst he
        rw [HSl.out] at c0
        by_cases hql : q < n
        · have hql' : (q : Int) < n := by omega
          have hrow := HF.out.rw k hlt
          rw [HSl.out, ← HN.out] at hrow
          obtain ⟨sg, rfl⟩ := own_pos hrow (by omega)
          have hqL : q < (F k).length := by rw [← hrow.len]; exact hql
          have hsg := (hrow.lt sg rfl).2
          have HSb := Lib.hid (hrow.lt sg rfl).1
          obtain ⟨E0, Ef0⟩ := own_cellC inc_len hrow q hqL 0 (by omega)
          rw [Nat.mul_one, Nat.add_zero] at E0 Ef0
          have HRow := Lib.hid hrow
          have HQl := Lib.hid hqL
          clear hrow
          go_upto_region 7 with (fail)
          go_region_with (go_at_call 84; refine (markI_c k q _ ⟨by omega, by omega⟩ ⟨by omega, by omega⟩).mono ?_; rintro e wx ⟨rfl, hb⟩; have c0x := cell_later hb c0; have e0 := cell_later hb E0; have f0 := (hb.frozen (p := ⟨sg, _, none⟩) hsg).trans Ef0; have HBx := Lib.hid (((Below.refl wr.heap.size wr).drew).trans hb); clear hb)
          all_goals
            have hnew := (HRow.out.later HBx.out).store HQl.out (mk1I k q)
            have hFs := (HF.out.later HBx.out).set hlt (g := sg) (by rw [HSl.out]; rfl) (((Keeps.refl (fun b => b = sg) wx).setCell (p := ⟨sg, q, none⟩) rfl _)) (by rw [HSl.out, ← HN.out]; exact hnew)
            have hbl : Below B w ((wx.setCell ⟨sg, q, none⟩ (.int .i64 (1000003 * ((k : Int) + 7) + (q : Int))))) := ((HB.out.trans (HBx.out.mono HF.out.bw)).setCell (p := ⟨sg, q, none⟩) HSb.out _)
            have HFs := Lib.hid hFs
            have HBl := Lib.hid hbl
            clear hnew hFs hbl
            go_wp2
            go_roundw
            case rel => exact ⟨q + 1, _, by omega, by go_num, HFs, Lib.hid (fun j hj => by unfold updI; rw [if_neg (by omega)]; exact HP.out j hj), Lib.hid (by unfold updI; rw [if_pos rfl]; exact set_takeI HQl.out HT.out), HBl.out⟩
            case measure => simp [intOf]; omega
        · have hql' : ¬ (q : Int) < n := by omega
          have HFk := Lib.hid (show F k = mksI k (nn k) from by
            have h1 := HT.out
            have h2 := (HF.out.rw k hlt).len
            have h3 := HN.out
            rw [← HN.out, show n = q from by omega, ← h1, List.take_of_length_le (by omega)])
          go_wp2
          go_roundw
          case rel => exact ⟨k + 1, F, by omega, by go_num, HF, Lib.hid (fun j hj => by
            by_cases hjk : j = k
            · subst hjk; exact HFk.out
            · exact HP.out j (by omega)), HB.out⟩
          case measure => simp [intOf]; omega
    · have hlt' : ¬ (k : Int) < m := by omega
      have HP2 := Lib.hid (show ∀ j, j < m → F j = mksI j (nn j) from fun j hj => HP.out j (by omega))
      clear HP
      go_wp2_with (at_make; refine wpList_make_full _ rfl (.tmp 41) (.tmp 41) 38 rfl B 27 i1 (.slice none 0 0) 1 Tryz.underlying38 hi1 hs0 hs1 .i64 .i64 _ _ m rfl rfl rfl rfl (by rw [hs2]; omega) (by unfold maxLen; omega) HF.out.bw ?_; intro w1 hown1 hg1)
      have hb1 : Below wr.heap.size wr w1 := (Below.refl wr.heap.size wr).grown hg1 (Nat.le_refl _) (fun k hk => by simp at hk)
      have HF1 := Lib.hid (HF.out.later hb1)
      have HB1 := Lib.hid (HB.out.trans (hb1.mono HF.out.bw))
      obtain ⟨gv, hgv⟩ : ∃ gv, gv = (madeCells (Value.slice none 0 0).cells (m * 1)).toList := ⟨_, rfl⟩
      rw [← hgv] at hown1
      have HG0 := Lib.hid (show GsI K B w1 (.slice va m vcp) vs m nn (.slice (some ⟨wr.heap.size, 0, none⟩) m m) gv 0 F from
        ⟨hown1, by have := hown1.1; omega, fun b hb hb2 => by have := (HF.out.ls.lt b hb2).2; simp [Value.ownBlock] at hb; omega, fun q hq e => by have := lt_of_block (HF.out.kn q hq).1; simp [Value.ownBlock] at e; omega, fun j hj => absurd hj (by omega), fun j hj => absurd hj (by omega), fun j hj => absurd hj (by omega)⟩)
      have HGb := Lib.hid HF.out.bw
      generalize wr.heap.size = gb at HG0 HGb ⊢
      clear hown1 hg1 hb1 hgv HF HB
      go_wp2
      go_loopw [6] (fun i wr => ∃ (k : Nat) (gv : List Value) (X : Nat → List Int), k ≤ m ∧ i = .int .i64 k ∧ Hid (FsI K B wr (.slice va m vcp) vs m nn F) ∧ Hid (GsI K B wr (.slice va m vcp) vs m nn (.slice (some ⟨gb, 0, none⟩) m m) gv k X) ∧ Hid (∀ j, j < k → X j = mksI j (nn j + 64)) ∧ Below B w wr) (fun i _ => m - (intOf i).toNat)
      case atStart => exact ⟨0, gv, F, by omega, rfl, HF1, HG0, Lib.hid (fun j hj => absurd hj (by omega)), HB1.out⟩
      case round => as_aux_lemma =>
        clear HF1 HG0 HB1
        obtain ⟨k, gv, X, hk, rfl, HF, HG, HX, hbel⟩ := hrel
        have HB := Lib.hid hbel
        clear hbel
        by_cases hlt : k < m
        · have hlt' : (k : Int) < m := by omega
          obtain ⟨lb, rfl, hlb, c0, -⟩ := FsI.cell HF.out.ls HF.out.len hlt
          have hrow := HF.out.rw k hlt
          have hcur := CurI.of HF.out HG.out hlt
          rw [HP2.out k hlt] at hrow
          obtain ⟨sa, sc, hsl⟩ := own_val hrow
          have hn1 := HNn.out k hlt
          obtain ⟨n, hn⟩ : ∃ n, n = nn k := ⟨_, rfl⟩
          rw [← hn] at hsl hn1 hrow
          rw [hsl] at c0 hrow hcur
          have HSl := Lib.hid hsl
          have HN := Lib.hid hn
          have HR0 := Lib.hid (show RowI B wr (.slice sa n sc) (n + 0) (mksI k (n + 0)) from hrow)
          have HC0 := Lib.hid hcur
          clear hrow hsl hn hlb hcur
          go_wp2
          clear c0
          go_loopw [7, 8] (fun v i wr => ∃ q : Nat, q ≤ 64 ∧ i = .int .i64 q ∧ Hid (FsI K B wr (.slice (some ⟨lb, 0, none⟩) m vcp) vs m nn F) ∧ Hid (GsI K B wr (.slice (some ⟨lb, 0, none⟩) m vcp) vs m nn (.slice (some ⟨gb, 0, none⟩) m m) gv k X) ∧ Hid (RowI B wr v (n + q) (mksI k (n + q))) ∧ Hid (CurI K vs m gv k v) ∧ Below B w wr) (fun _ i _ => 64 - (intOf i).toNat)
          case atStart => exact ⟨0, by omega, rfl, HF, HG, HR0, HC0, HB.out⟩
          case round => as_aux_lemma =>
            clear HF HG HR0 HC0 HB
            obtain ⟨q, hq, rfl, HF, HG, HR, HC, hbel⟩ := hrel
            have HB := Lib.hid hbel
            clear hbel
            obtain ⟨ga, gc, rfl⟩ := own_val HR.out
            by_cases hql : q < 64
            · have hql' : (q : Int) < 64 := by omega
              obtain ⟨lb', he, hlb, c0, -⟩ := FsI.cell HF.out.ls HF.out.len hlt
              simp only [Option.some.injEq, Addr.mk.injEq, and_true] at he
              subst he
              rw [HSl.out] at c0
              go_wp2_with fail
              refine (markI_c k ((n : Int) + (q : Int)) _ ⟨by omega, by omega⟩ ⟨by omega, by omega⟩).mono ?_
              rintro e wx ⟨rfl, hb⟩
              have HFx := Lib.hid (HF.out.later hb)
              have HGx := Lib.hid (HG.out.later hb)
              have HRx := Lib.hid (HR.out.later hb)
              have HBx := Lib.hid (HB.out.trans (hb.mono HF.out.bw))
              have hal := (one_new wx (.cells #[.int .i64 (1000003 * ((k : Int) + 7) + ((n : Int) + (q : Int)))] 3 (0, 0))).1
              have HAl := Lib.hid hal
              have HFa := Lib.hid (HFx.out.later hal)
              have HGa := Lib.hid (HGx.out.later hal)
              have HRa := Lib.hid (HRx.out.later hal)
              clear hb hal c0 HF HG HR HB
              go_wp2_with (at_builtin; refine wpList_append_kept _ rfl (.tmp 57) (.tmp 67) 27 rfl B 3 i0 _ 1 8 Tryz.underlying27 hi0 hz0 hz1 hz2 rfl (by decide) _ (n + q) _ rfl HRa.out ⟨wx.heap.size, 0, none⟩ 1 1 [.int .i64 (1000003 * ((k : Int) + 7) + ((n : Int) + (q : Int)))] rfl rfl (World.news_of_block (cs := #[.int .i64 (1000003 * ((k : Int) + 7) + ((n : Int) + (q : Int)))]) (t := 3) (fr := (0, 0)) (heap_alloc_new wx _)) (by simp [Value.oneCell']) (by omega) (by unfold maxLen; omega) (by omega) HFa.out.bw ?_; intro v' w1 hown' hgrow hkp)
              have hL : RowI B w1 v' (n + q + 1) (mksI k (n + q + 1)) := by
                unfold RowI
                rw [mksI_succ, List.flatMap_append]
                simpa [mk1I, inc] using hown'
              obtain ⟨h1, h2, h3⟩ := growI HFa.out HGa.out hlt HRa.out HC.out hL hgrow hkp (by have := HN.out; omega) (by omega) (by rw [HP2.out k hlt, ← HN.out, mksI_take (by omega)])
              have HF' := Lib.hid h1
              have HG' := Lib.hid h2
              have HC' := Lib.hid h3
              have HL' := Lib.hid hL
              have HB' := Lib.hid ((HBx.out.trans (HAl.out.mono HFx.out.bw)).grown hgrow HFa.out.bw (fun b hb => (HRa.out.lt b hb).1))
              clear h1 h2 h3 hL hown' hgrow hkp
              go_wp2
              go_roundw
              case rel => exact ⟨q + 1, by omega, by go_num, HF', HG', HL', HC', HB'.out⟩
              case measure => simp [intOf]; omega
            · have hql' : ¬ (q : Int) < 64 := by omega
              obtain rfl : q = 64 := by omega
              obtain ⟨gb', he, hgb, c0, f0⟩ := FsI.cell HG.out.ls HG.out.len hlt
              simp only [Option.some.injEq, Addr.mk.injEq, and_true] at he
              subst he
              have hst := HG.out.store HF.out hlt (L := mksI k (n + 64)) (by rw [← HN.out]; exact HR.out) HC.out rfl
              have HF' := Lib.hid hst.1
              have HG' := Lib.hid hst.2
              have HB' := Lib.hid (HB.out.setCell (p := ⟨gb, k, none⟩) HGb.out (.slice ga (n + 64) gc))
              clear hst HF HG HB
              go_wp2
              go_roundw
              case rel => exact ⟨k + 1, _, _, by omega, by go_num, HF', HG', Lib.hid (fun j hj => by
                unfold updXI
                by_cases hjk : j = k
                · rw [if_pos hjk, hjk, HN.out]
                · rw [if_neg hjk]; exact HX.out j (by omega)), HB'.out⟩
              case measure => simp [intOf]; omega
        · have hlt' : ¬ (k : Int) < m := by omega
          have hG := HG.out
          rw [show k = m from by omega] at hG
          have HGm := Lib.hid hG
          have HXm := Lib.hid (show ∀ j, j < m → X j = mksI j (nn j + 64) from fun j hj => HX.out j (by omega))
          clear hG HG HX
          go_wp2
          go_loopw [9] (fun i wr => ∃ k : Nat, k ≤ m ∧ i = .int .i64 k ∧ Hid (FsI K B wr (.slice va m vcp) vs m nn F) ∧ Hid (GsI K B wr (.slice va m vcp) vs m nn (.slice (some ⟨gb, 0, none⟩) m m) gv m X) ∧ Below B w wr) (fun i _ => m - (intOf i).toNat)
          case atStart => exact ⟨0, by omega, rfl, HF, HGm, HB.out⟩
          case round => as_aux_lemma =>
            clear HF HGm HB
            obtain ⟨k, hk, rfl, HF, HG, hbel⟩ := hrel
            have HB := Lib.hid hbel
            clear hbel
            by_cases hlt : k < m
            · have hlt' : (k : Int) < m := by omega
              obtain ⟨lb, rfl, hlb, c0, -⟩ := FsI.cell HF.out.ls HF.out.len hlt
              have hrow := HF.out.rw k hlt
              rw [HP2.out k hlt] at hrow
              obtain ⟨sa, sc, hsl⟩ := own_val hrow
              have hn1 := HNn.out k hlt
              have hrg := HG.out.rw k hlt
              rw [HXm.out k hlt] at hrg
              obtain ⟨n, hn⟩ : ∃ n, n = nn k := ⟨_, rfl⟩
              rw [← hn] at hsl hn1 hrg
              obtain ⟨ga, gc, hgl⟩ := own_val hrg
              rw [hgl] at hrg
              obtain ⟨gg, rfl⟩ := own_pos hrg (by omega)
              have HSl := Lib.hid hsl
              have HGl := Lib.hid hgl
              have HN := Lib.hid hn
              clear hrow hsl hn hlb hrg hgl c0
              go_wp2
              go_loopw [10] (fun i wr => ∃ q : Nat, q ≤ n + 64 ∧ i = .int .i64 q ∧ Hid (FsI K B wr (.slice (some ⟨lb, 0, none⟩) m vcp) vs m nn F) ∧ Hid (GsI K B wr (.slice (some ⟨lb, 0, none⟩) m vcp) vs m nn (.slice (some ⟨gb, 0, none⟩) m m) gv m X) ∧ Below B w wr) (fun i _ => n + 64 - (intOf i).toNat)
              case atStart => exact ⟨0, by omega, rfl, HF, HG, HB.out⟩
              case round => as_aux_lemma =>
                clear HF HG HB
                obtain ⟨q, hq, rfl, HF, HG, hbel⟩ := hrel
                have HB := Lib.hid hbel
                clear hbel
                obtain ⟨gb', he, hgb, g0, -⟩ := FsI.cell HG.out.ls HG.out.len hlt
                simp only [Option.some.injEq, Addr.mk.injEq, and_true] at he
                subst he
                rw [HGl.out] at g0
                by_cases hql : q < n + 64
                · have hql' : (q : Int) < (n : Int) + 64 := by omega
                  obtain ⟨lb', he, hlb, c0, -⟩ := FsI.cell HF.out.ls HF.out.len hlt
                  simp only [Option.some.injEq, Addr.mk.injEq, and_true] at he
                  subst he
                  rw [HSl.out] at c0
                  have hrg := HG.out.rw k hlt
                  rw [HXm.out k hlt, HGl.out, ← HN.out] at hrg
                  have E0 : wr.cell? ⟨gg, q, none⟩ = some (.int .i64 (1000003 * ((k : Int) + 7) + (q : Int))) := by
                    have := (own_cellC inc_len hrg q (by rw [mksI_len]; omega) 0 (by omega)).1
                    rw [mksI_get (by omega)] at this
                    rw [Nat.mul_one, Nat.add_zero] at this
                    exact this
                  have HMk := Lib.hid (show ∀ u2, Below wr.heap.size wr u2 → Calls Tryz.prog 84 #[.int .i64 k, .int .i64 q] u2 fun e w' => e = .returned (.int .i64 (1000003 * ((k : Int) + 7) + (q : Int))) ∧ Below wr.heap.size wr w' from fun u2 hu => (markI_c k q u2 ⟨by omega, by omega⟩ ⟨by omega, by omega⟩).mono fun e w' hh => ⟨hh.1, hu.trans (hh.2.mono hu.size)⟩)
                  clear hrg
                  by_cases hqn : q < n
                  · have hqn' : (q : Int) < n := by omega
                    have hrow := HF.out.rw k hlt
                    rw [HP2.out k hlt, HSl.out, ← HN.out] at hrow
                    obtain ⟨sg, rfl⟩ := own_pos hrow (by omega)
                    have D0 : wr.cell? ⟨sg, q, none⟩ = some (.int .i64 (1000003 * ((k : Int) + 7) + (q : Int))) := by
                      have := (own_cellC inc_len hrow q (by rw [mksI_len]; omega) 0 (by omega)).1
                      rw [mksI_get hqn] at this
                      rw [Nat.mul_one, Nat.add_zero] at this
                      exact this
                    clear hrow
                    go_upto_region 24 with (fail)
                    refine wp_region_held_drew (S := fun u2 => Below wr.heap.size wr u2) (by kernel_rfl) ((Below.refl wr.heap.size wr).drew) (fun hS => ?_)
                    as_aux_lemma =>
                      refine wpAnyH_take (i := 0) (oi := ⟨_, _, _, _, _, _⟩) (v := ?v1) rfl (by kernel_rfl) (by kernel_rfl) (by kernel_rfl) (fun _ _ _ h => h) ?y1 hS ?_
                      case y1 => first | (refine Or.inr ⟨by rfl, ?_⟩; with_reducible rfl) | (refine Or.inl ⟨by rfl, ?_⟩; intro wS hSw; have z0 := cell_later hSw c0; have z1 := cell_later hSw g0; have y0 := cell_later hSw E0; have x0 := cell_later hSw D0; go_simp; try with_reducible rfl)
                      simp only [Act.put, List.setIfInBounds_toArray, List.set_cons_zero, List.set_cons_succ]
                      refine wpAnyH_take (i := 1) (oi := ⟨_, _, _, _, _, _⟩) (v := ?v2) rfl (by kernel_rfl) (by kernel_rfl) (by kernel_rfl) (fun _ _ _ h => h) ?y2 hS ?_
                      case y2 => first | (refine Or.inr ⟨by rfl, ?_⟩; with_reducible rfl) | (refine Or.inl ⟨by rfl, ?_⟩; intro wS hSw; have z0 := cell_later hSw c0; have z1 := cell_later hSw g0; have y0 := cell_later hSw E0; have x0 := cell_later hSw D0; go_simp; try with_reducible rfl)
                      simp only [Act.put, List.setIfInBounds_toArray, List.set_cons_zero, List.set_cons_succ]
                      refine wpAnyH_take (i := 2) (oi := ⟨_, _, _, _, _, _⟩) (v := ?v3) rfl (by kernel_rfl) (by kernel_rfl) (by kernel_rfl) (fun _ _ _ h => h) ?y3 hS ?_
                      case y3 => first | (refine Or.inr ⟨by rfl, ?_⟩; with_reducible rfl) | (refine Or.inl ⟨by rfl, ?_⟩; intro wS hSw; have z0 := cell_later hSw c0; have z1 := cell_later hSw g0; have y0 := cell_later hSw E0; have x0 := cell_later hSw D0; go_simp; try with_reducible rfl)
                      simp only [Act.put, List.setIfInBounds_toArray, List.set_cons_zero, List.set_cons_succ]
                      refine wpAnyH_take (i := 3) (oi := ⟨_, _, _, _, _, _⟩) (v := ?v4) rfl (by kernel_rfl) (by kernel_rfl) (by kernel_rfl) (fun _ _ _ h => h) ?y4 hS ?_
                      case y4 => first | (refine Or.inr ⟨by rfl, ?_⟩; with_reducible rfl) | (refine Or.inl ⟨by rfl, ?_⟩; intro wS hSw; have z0 := cell_later hSw c0; have z1 := cell_later hSw g0; have y0 := cell_later hSw E0; have x0 := cell_later hSw D0; go_simp; try with_reducible rfl)
                      simp only [Act.put, List.setIfInBounds_toArray, List.set_cons_zero, List.set_cons_succ]
                      refine wpAnyH_take (i := 4) (oi := ⟨_, _, _, _, _, _⟩) (v := ?v5) rfl (by kernel_rfl) (by kernel_rfl) (by kernel_rfl) (fun _ _ _ h => h) ?y5 hS ?_
                      case y5 => first | (refine Or.inr ⟨by rfl, ?_⟩; with_reducible rfl) | (refine Or.inl ⟨by rfl, ?_⟩; intro wS hSw; have z0 := cell_later hSw c0; have z1 := cell_later hSw g0; have y0 := cell_later hSw E0; have x0 := cell_later hSw D0; go_simp; try with_reducible rfl)
                      simp only [Act.put, List.setIfInBounds_toArray, List.set_cons_zero, List.set_cons_succ]
                      refine wpAnyH_take (i := 5) (oi := ⟨_, _, _, _, _, _⟩) (v := ?v6) rfl (by kernel_rfl) (by kernel_rfl) (by kernel_rfl) (fun _ _ _ h => h) ?y6 hS ?_
                      case y6 => first | (refine Or.inr ⟨by rfl, ?_⟩; with_reducible rfl) | (refine Or.inl ⟨by rfl, ?_⟩; intro wS hSw; have z0 := cell_later hSw c0; have z1 := cell_later hSw g0; have y0 := cell_later hSw E0; have x0 := cell_later hSw D0; go_simp; try with_reducible rfl)
                      simp only [Act.put, List.setIfInBounds_toArray, List.set_cons_zero, List.set_cons_succ]
                      as_aux_lemma =>
                        refine wpAnyH_take (i := 6) (oi := ⟨_, _, _, _, _, _⟩) (v := ?v7) rfl (by kernel_rfl) (by kernel_rfl) (by kernel_rfl) (fun _ _ _ h => h) ?y7 hS ?_
                        case y7 => first | (refine Or.inr ⟨by rfl, ?_⟩; with_reducible rfl) | (refine Or.inl ⟨by rfl, ?_⟩; intro wS hSw; have z0 := cell_later hSw c0; have z1 := cell_later hSw g0; have y0 := cell_later hSw E0; have x0 := cell_later hSw D0; go_simp; try with_reducible rfl)
                        simp only [Act.put, List.setIfInBounds_toArray, List.set_cons_zero, List.set_cons_succ]
                        refine wpAnyH_take (i := 7) (oi := ⟨_, _, _, _, _, _⟩) (v := ?v8) rfl (by kernel_rfl) (by kernel_rfl) (by kernel_rfl) (fun _ _ _ h => h) ?y8 hS ?_
                        case y8 => first | (refine Or.inr ⟨by rfl, ?_⟩; with_reducible rfl) | (refine Or.inl ⟨by rfl, ?_⟩; intro wS hSw; have z0 := cell_later hSw c0; have z1 := cell_later hSw g0; have y0 := cell_later hSw E0; have x0 := cell_later hSw D0; go_simp; try with_reducible rfl)
                        simp only [Act.put, List.setIfInBounds_toArray, List.set_cons_zero, List.set_cons_succ]
                        refine wpAnyH_take (i := 8) (oi := ⟨_, _, _, _, _, _⟩) (v := ?v9) rfl (by kernel_rfl) (by kernel_rfl) (by kernel_rfl) (fun _ _ _ h => h) ?y9 hS ?_
                        case y9 => first | (refine Or.inr ⟨by rfl, ?_⟩; with_reducible rfl) | (refine Or.inl ⟨by rfl, ?_⟩; intro wS hSw; have z0 := cell_later hSw c0; have z1 := cell_later hSw g0; have y0 := cell_later hSw E0; have x0 := cell_later hSw D0; go_simp; try with_reducible rfl)
                        simp only [Act.put, List.setIfInBounds_toArray, List.set_cons_zero, List.set_cons_succ]
                        refine wpAnyH_ready (rs := [9]) (by kernel_rfl) (by simp) ?_
                        refine AllReadyH.cons (o := ⟨_, _, _, _, _, _⟩) rfl (fun K hK => ?_) AllReadyH.nil
                        go_simp
                        refine (HMk.out _ hS).mono ?_
                        rintro e wx ⟨rfl, hb⟩
                        clear hS
                        have HbX := Lib.hid hb
                        clear hb
                        simp only []
                        refine hK.out _ _ HbX.out (fun hS => ?_)
                        clear hK K HbX
                        try simp only [Act.put, List.setIfInBounds_toArray, List.set_cons_zero, List.set_cons_succ]
                        refine wpAnyH_take (i := 10) (oi := ⟨_, _, _, _, _, _⟩) (v := ?v10) rfl (by kernel_rfl) (by kernel_rfl) (by kernel_rfl) (fun _ _ _ h => h) ?y10 hS ?_
                        case y10 => first | (refine Or.inr ⟨by rfl, ?_⟩; with_reducible rfl) | (refine Or.inl ⟨by rfl, ?_⟩; intro wS hSw; have z0 := cell_later hSw c0; have z1 := cell_later hSw g0; have y0 := cell_later hSw E0; have x0 := cell_later hSw D0; go_simp; try with_reducible rfl)
                        simp only [Act.put, List.setIfInBounds_toArray, List.set_cons_zero, List.set_cons_succ]
                        refine wpAnyH_take (i := 11) (oi := ⟨_, _, _, _, _, _⟩) (v := ?v11) rfl (by kernel_rfl) (by kernel_rfl) (by kernel_rfl) (fun _ _ _ h => h) ?y11 hS ?_
                        case y11 => first | (refine Or.inr ⟨by rfl, ?_⟩; with_reducible rfl) | (refine Or.inl ⟨by rfl, ?_⟩; intro wS hSw; have z0 := cell_later hSw c0; have z1 := cell_later hSw g0; have y0 := cell_later hSw E0; have x0 := cell_later hSw D0; go_simp; try with_reducible rfl)
                        simp only [Act.put, List.setIfInBounds_toArray, List.set_cons_zero, List.set_cons_succ]
                        as_aux_lemma =>
                          refine wpAnyH_take (i := 12) (oi := ⟨_, _, _, _, _, _⟩) (v := ?v12) rfl (by kernel_rfl) (by kernel_rfl) (by kernel_rfl) (fun _ _ _ h => h) ?y12 hS ?_
                          case y12 => first | (refine Or.inr ⟨by rfl, ?_⟩; with_reducible rfl) | (refine Or.inl ⟨by rfl, ?_⟩; intro wS hSw; have z0 := cell_later hSw c0; have z1 := cell_later hSw g0; have y0 := cell_later hSw E0; have x0 := cell_later hSw D0; go_simp; try with_reducible rfl)
                          simp only [Act.put, List.setIfInBounds_toArray, List.set_cons_zero, List.set_cons_succ]
                          refine wpAnyH_take (i := 13) (oi := ⟨_, _, _, _, _, _⟩) (v := ?v13) rfl (by kernel_rfl) (by kernel_rfl) (by kernel_rfl) (fun _ _ _ h => h) ?y13 hS ?_
                          case y13 => first | (refine Or.inr ⟨by rfl, ?_⟩; with_reducible rfl) | (refine Or.inl ⟨by rfl, ?_⟩; intro wS hSw; have z0 := cell_later hSw c0; have z1 := cell_later hSw g0; have y0 := cell_later hSw E0; have x0 := cell_later hSw D0; go_simp; try with_reducible rfl)
                          simp only [Act.put, List.setIfInBounds_toArray, List.set_cons_zero, List.set_cons_succ]
                          refine wpAnyH_take (i := 14) (oi := ⟨_, _, _, _, _, _⟩) (v := ?v14) rfl (by kernel_rfl) (by kernel_rfl) (by kernel_rfl) (fun _ _ _ h => h) ?y14 hS ?_
                          case y14 => first | (refine Or.inr ⟨by rfl, ?_⟩; with_reducible rfl) | (refine Or.inl ⟨by rfl, ?_⟩; intro wS hSw; have z0 := cell_later hSw c0; have z1 := cell_later hSw g0; have y0 := cell_later hSw E0; have x0 := cell_later hSw D0; go_simp; try with_reducible rfl)
                          simp only [Act.put, List.setIfInBounds_toArray, List.set_cons_zero, List.set_cons_succ]
                          refine wpAnyH_take (i := 15) (oi := ⟨_, _, _, _, _, _⟩) (v := ?v15) rfl (by kernel_rfl) (by kernel_rfl) (by kernel_rfl) (fun _ _ _ h => h) ?y15 hS ?_
                          case y15 => first | (refine Or.inr ⟨by rfl, ?_⟩; with_reducible rfl) | (refine Or.inl ⟨by rfl, ?_⟩; intro wS hSw; have z0 := cell_later hSw c0; have z1 := cell_later hSw g0; have y0 := cell_later hSw E0; have x0 := cell_later hSw D0; go_simp; try with_reducible rfl)
                          simp only [Act.put, List.setIfInBounds_toArray, List.set_cons_zero, List.set_cons_succ]
                          refine wpAnyH_take (i := 16) (oi := ⟨_, _, _, _, _, _⟩) (v := ?v16) rfl (by kernel_rfl) (by kernel_rfl) (by kernel_rfl) (fun _ _ _ h => h) ?y16 hS ?_
                          case y16 => first | (refine Or.inr ⟨by rfl, ?_⟩; with_reducible rfl) | (refine Or.inl ⟨by rfl, ?_⟩; intro wS hSw; have z0 := cell_later hSw c0; have z1 := cell_later hSw g0; have y0 := cell_later hSw E0; have x0 := cell_later hSw D0; go_simp; try with_reducible rfl)
                          simp only [Act.put, List.setIfInBounds_toArray, List.set_cons_zero, List.set_cons_succ]
                          refine wpAnyH_take (i := 17) (oi := ⟨_, _, _, _, _, _⟩) (v := ?v17) rfl (by kernel_rfl) (by kernel_rfl) (by kernel_rfl) (fun _ _ _ h => h) ?y17 hS ?_
                          case y17 => first | (refine Or.inr ⟨by rfl, ?_⟩; with_reducible rfl) | (refine Or.inl ⟨by rfl, ?_⟩; intro wS hSw; have z0 := cell_later hSw c0; have z1 := cell_later hSw g0; have y0 := cell_later hSw E0; have x0 := cell_later hSw D0; go_simp; try with_reducible rfl)
                          simp only [Act.put, List.setIfInBounds_toArray, List.set_cons_zero, List.set_cons_succ]
                          as_aux_lemma =>
                            refine wpAnyH_take (i := 18) (oi := ⟨_, _, _, _, _, _⟩) (v := ?v18) rfl (by kernel_rfl) (by kernel_rfl) (by kernel_rfl) (fun _ _ _ h => h) ?y18 hS ?_
                            case y18 => first | (refine Or.inr ⟨by rfl, ?_⟩; with_reducible rfl) | (refine Or.inl ⟨by rfl, ?_⟩; intro wS hSw; have z0 := cell_later hSw c0; have z1 := cell_later hSw g0; have y0 := cell_later hSw E0; have x0 := cell_later hSw D0; go_simp; try with_reducible rfl)
                            simp only [Act.put, List.setIfInBounds_toArray, List.set_cons_zero, List.set_cons_succ]
                            refine wpAnyH_take (i := 19) (oi := ⟨_, _, _, _, _, _⟩) (v := ?v19) rfl (by kernel_rfl) (by kernel_rfl) (by kernel_rfl) (fun _ _ _ h => h) ?y19 hS ?_
                            case y19 => first | (refine Or.inr ⟨by rfl, ?_⟩; with_reducible rfl) | (refine Or.inl ⟨by rfl, ?_⟩; intro wS hSw; have z0 := cell_later hSw c0; have z1 := cell_later hSw g0; have y0 := cell_later hSw E0; have x0 := cell_later hSw D0; go_simp; try with_reducible rfl)
                            simp only [Act.put, List.setIfInBounds_toArray, List.set_cons_zero, List.set_cons_succ]
                            refine wpAnyH_take (i := 20) (oi := ⟨_, _, _, _, _, _⟩) (v := ?v20) rfl (by kernel_rfl) (by kernel_rfl) (by kernel_rfl) (fun _ _ _ h => h) ?y20 hS ?_
                            case y20 => first | (refine Or.inr ⟨by rfl, ?_⟩; with_reducible rfl) | (refine Or.inl ⟨by rfl, ?_⟩; intro wS hSw; have z0 := cell_later hSw c0; have z1 := cell_later hSw g0; have y0 := cell_later hSw E0; have x0 := cell_later hSw D0; go_simp; try with_reducible rfl)
                            simp only [Act.put, List.setIfInBounds_toArray, List.set_cons_zero, List.set_cons_succ]
                            refine wpAnyH_take (i := 21) (oi := ⟨_, _, _, _, _, _⟩) (v := ?v21) rfl (by kernel_rfl) (by kernel_rfl) (by kernel_rfl) (fun _ _ _ h => h) ?y21 hS ?_
                            case y21 => first | (refine Or.inr ⟨by rfl, ?_⟩; with_reducible rfl) | (refine Or.inl ⟨by rfl, ?_⟩; intro wS hSw; have z0 := cell_later hSw c0; have z1 := cell_later hSw g0; have y0 := cell_later hSw E0; have x0 := cell_later hSw D0; go_simp; try with_reducible rfl)
                            simp only [Act.put, List.setIfInBounds_toArray, List.set_cons_zero, List.set_cons_succ]
                            refine wpAnyH_take (i := 22) (oi := ⟨_, _, _, _, _, _⟩) (v := ?v22) rfl (by kernel_rfl) (by kernel_rfl) (by kernel_rfl) (fun _ _ _ h => h) ?y22 hS ?_
                            case y22 => first | (refine Or.inr ⟨by rfl, ?_⟩; with_reducible rfl) | (refine Or.inl ⟨by rfl, ?_⟩; intro wS hSw; have z0 := cell_later hSw c0; have z1 := cell_later hSw g0; have y0 := cell_later hSw E0; have x0 := cell_later hSw D0; go_simp; try with_reducible rfl)
                            simp only [Act.put, List.setIfInBounds_toArray, List.set_cons_zero, List.set_cons_succ]
                            refine wpAnyH_take (i := 23) (oi := ⟨_, _, _, _, _, _⟩) (v := ?v23) rfl (by kernel_rfl) (by kernel_rfl) (by kernel_rfl) (fun _ _ _ h => h) ?y23 hS ?_
                            case y23 => first | (refine Or.inr ⟨by rfl, ?_⟩; with_reducible rfl) | (refine Or.inl ⟨by rfl, ?_⟩; intro wS hSw; have z0 := cell_later hSw c0; have z1 := cell_later hSw g0; have y0 := cell_later hSw E0; have x0 := cell_later hSw D0; go_simp; try with_reducible rfl)
                            simp only [Act.put, List.setIfInBounds_toArray, List.set_cons_zero, List.set_cons_succ]
                            as_aux_lemma =>
                              refine wpAnyH_take (i := 24) (oi := ⟨_, _, _, _, _, _⟩) (v := ?v24) rfl (by kernel_rfl) (by kernel_rfl) (by kernel_rfl) (fun _ _ _ h => h) ?y24 hS ?_
                              case y24 => first | (refine Or.inr ⟨by rfl, ?_⟩; with_reducible rfl) | (refine Or.inl ⟨by rfl, ?_⟩; intro wS hSw; have z0 := cell_later hSw c0; have z1 := cell_later hSw g0; have y0 := cell_later hSw E0; have x0 := cell_later hSw D0; go_simp; try with_reducible rfl)
                              simp only [Act.put, List.setIfInBounds_toArray, List.set_cons_zero, List.set_cons_succ]
                              refine wpAnyH_take (i := 25) (oi := ⟨_, _, _, _, _, _⟩) (v := ?v25) rfl (by kernel_rfl) (by kernel_rfl) (by kernel_rfl) (fun _ _ _ h => h) ?y25 hS ?_
                              case y25 => first | (refine Or.inr ⟨by rfl, ?_⟩; with_reducible rfl) | (refine Or.inl ⟨by rfl, ?_⟩; intro wS hSw; have z0 := cell_later hSw c0; have z1 := cell_later hSw g0; have y0 := cell_later hSw E0; have x0 := cell_later hSw D0; go_simp; try with_reducible rfl)
                              simp only [Act.put, List.setIfInBounds_toArray, List.set_cons_zero, List.set_cons_succ]
                              refine wpAnyH_take (i := 26) (oi := ⟨_, _, _, _, _, _⟩) (v := ?v26) rfl (by kernel_rfl) (by kernel_rfl) (by kernel_rfl) (fun _ _ _ h => h) ?y26 hS ?_
                              case y26 => first | (refine Or.inr ⟨by rfl, ?_⟩; with_reducible rfl) | (refine Or.inl ⟨by rfl, ?_⟩; intro wS hSw; have z0 := cell_later hSw c0; have z1 := cell_later hSw g0; have y0 := cell_later hSw E0; have x0 := cell_later hSw D0; go_simp; try with_reducible rfl)
                              simp only [Act.put, List.setIfInBounds_toArray, List.set_cons_zero, List.set_cons_succ]
                              refine wpAnyH_take (i := 27) (oi := ⟨_, _, _, _, _, _⟩) (v := ?v27) rfl (by kernel_rfl) (by kernel_rfl) (by kernel_rfl) (fun _ _ _ h => h) ?y27 hS ?_
                              case y27 => first | (refine Or.inr ⟨by rfl, ?_⟩; with_reducible rfl) | (refine Or.inl ⟨by rfl, ?_⟩; intro wS hSw; have z0 := cell_later hSw c0; have z1 := cell_later hSw g0; have y0 := cell_later hSw E0; have x0 := cell_later hSw D0; go_simp; try with_reducible rfl)
                              simp only [Act.put, List.setIfInBounds_toArray, List.set_cons_zero, List.set_cons_succ]
                              refine wpAnyH_take (i := 28) (oi := ⟨_, _, _, _, _, _⟩) (v := ?v28) rfl (by kernel_rfl) (by kernel_rfl) (by kernel_rfl) (fun _ _ _ h => h) ?y28 hS ?_
                              case y28 => first | (refine Or.inr ⟨by rfl, ?_⟩; with_reducible rfl) | (refine Or.inl ⟨by rfl, ?_⟩; intro wS hSw; have z0 := cell_later hSw c0; have z1 := cell_later hSw g0; have y0 := cell_later hSw E0; have x0 := cell_later hSw D0; go_simp; try with_reducible rfl)
                              simp only [Act.put, List.setIfInBounds_toArray, List.set_cons_zero, List.set_cons_succ]
                              refine wpAnyH_take (i := 29) (oi := ⟨_, _, _, _, _, _⟩) (v := ?v29) rfl (by kernel_rfl) (by kernel_rfl) (by kernel_rfl) (fun _ _ _ h => h) ?y29 hS ?_
                              case y29 => first | (refine Or.inr ⟨by rfl, ?_⟩; with_reducible rfl) | (refine Or.inl ⟨by rfl, ?_⟩; intro wS hSw; have z0 := cell_later hSw c0; have z1 := cell_later hSw g0; have y0 := cell_later hSw E0; have x0 := cell_later hSw D0; go_simp; try with_reducible rfl)
                              simp only [Act.put, List.setIfInBounds_toArray, List.set_cons_zero, List.set_cons_succ]
                              as_aux_lemma =>
                                refine wpAnyH_ready (rs := [30]) (by kernel_rfl) (by simp) ?_
                                refine AllReadyH.cons (o := ⟨_, _, _, _, _, _⟩) rfl (fun K hK => ?_) AllReadyH.nil
                                go_simp
                                refine (HMk.out _ hS).mono ?_
                                rintro e wx ⟨rfl, hb⟩
                                clear hS
                                have HbX := Lib.hid hb
                                clear hb
                                simp only []
                                refine hK.out _ _ HbX.out (fun hS => ?_)
                                clear hK K HbX
                                try simp only [Act.put, List.setIfInBounds_toArray, List.set_cons_zero, List.set_cons_succ]
                                refine wpAnyH_take (i := 31) (oi := ⟨_, _, _, _, _, _⟩) (v := ?v30) rfl (by kernel_rfl) (by kernel_rfl) (by kernel_rfl) (fun _ _ _ h => h) ?y30 hS ?_
                                case y30 => first | (refine Or.inr ⟨by rfl, ?_⟩; with_reducible rfl) | (refine Or.inl ⟨by rfl, ?_⟩; intro wS hSw; have z0 := cell_later hSw c0; have z1 := cell_later hSw g0; have y0 := cell_later hSw E0; have x0 := cell_later hSw D0; go_simp; try with_reducible rfl)
                                simp only [Act.put, List.setIfInBounds_toArray, List.set_cons_zero, List.set_cons_succ]
                                refine wpAnyH_take (i := 32) (oi := ⟨_, _, _, _, _, _⟩) (v := ?v31) rfl (by kernel_rfl) (by kernel_rfl) (by kernel_rfl) (fun _ _ _ h => h) ?y31 hS ?_
                                case y31 => first | (refine Or.inr ⟨by rfl, ?_⟩; with_reducible rfl) | (refine Or.inl ⟨by rfl, ?_⟩; intro wS hSw; have z0 := cell_later hSw c0; have z1 := cell_later hSw g0; have y0 := cell_later hSw E0; have x0 := cell_later hSw D0; go_simp; try with_reducible rfl)
                                simp only [Act.put, List.setIfInBounds_toArray, List.set_cons_zero, List.set_cons_succ]
                                refine wpAnyH_take (i := 33) (oi := ⟨_, _, _, _, _, _⟩) (v := ?v32) rfl (by kernel_rfl) (by kernel_rfl) (by kernel_rfl) (fun _ _ _ h => h) ?y32 hS ?_
                                case y32 => first | (refine Or.inr ⟨by rfl, ?_⟩; with_reducible rfl) | (refine Or.inl ⟨by rfl, ?_⟩; intro wS hSw; have z0 := cell_later hSw c0; have z1 := cell_later hSw g0; have y0 := cell_later hSw E0; have x0 := cell_later hSw D0; go_simp; try with_reducible rfl)
                                simp only [Act.put, List.setIfInBounds_toArray, List.set_cons_zero, List.set_cons_succ]
                                refine wpAnyH_take (i := 34) (oi := ⟨_, _, _, _, _, _⟩) (v := ?v33) rfl (by kernel_rfl) (by kernel_rfl) (by kernel_rfl) (fun _ _ _ h => h) ?y33 hS ?_
                                case y33 => first | (refine Or.inr ⟨by rfl, ?_⟩; with_reducible rfl) | (refine Or.inl ⟨by rfl, ?_⟩; intro wS hSw; have z0 := cell_later hSw c0; have z1 := cell_later hSw g0; have y0 := cell_later hSw E0; have x0 := cell_later hSw D0; go_simp; try with_reducible rfl)
                                simp only [Act.put, List.setIfInBounds_toArray, List.set_cons_zero, List.set_cons_succ]
                                refine wpAnyH_done (by kernel_rfl) ?_ _
                                as_aux_lemma =>
                                  clear E0 D0
                                  have HF' := Lib.hid (HF.out.later hS)
                                  have HG' := Lib.hid (HG.out.later hS)
                                  have HB' := Lib.hid (HB.out.trans (hS.mono HF.out.bw))
                                  clear hS c0 g0 HMk HF HG HB
                                  go_wp2
                                  go_roundw
                                  case rel => exact ⟨q + 1, by omega, by go_num, HF', HG', HB'.out⟩
                                  case measure => simp [intOf]; omega
                  · have hqn' : ¬ (q : Int) < n := by omega
                    go_upto_region 24 with (fail)
                    refine wp_region_held_drew (S := fun u2 => Below wr.heap.size wr u2) (by kernel_rfl) ((Below.refl wr.heap.size wr).drew) (fun hS => ?_)
                    as_aux_lemma =>
                      refine wpAnyH_take (i := 0) (oi := ⟨_, _, _, _, _, _⟩) (v := ?v34) rfl (by kernel_rfl) (by kernel_rfl) (by kernel_rfl) (fun _ _ _ h => h) ?y34 hS ?_
                      case y34 => first | (refine Or.inr ⟨by rfl, ?_⟩; with_reducible rfl) | (refine Or.inl ⟨by rfl, ?_⟩; intro wS hSw; have z0 := cell_later hSw c0; have z1 := cell_later hSw g0; have y0 := cell_later hSw E0; go_simp; try with_reducible rfl)
                      simp only [Act.put, List.setIfInBounds_toArray, List.set_cons_zero, List.set_cons_succ]
                      refine wpAnyH_take (i := 1) (oi := ⟨_, _, _, _, _, _⟩) (v := ?v35) rfl (by kernel_rfl) (by kernel_rfl) (by kernel_rfl) (fun _ _ _ h => h) ?y35 hS ?_
                      case y35 => first | (refine Or.inr ⟨by rfl, ?_⟩; with_reducible rfl) | (refine Or.inl ⟨by rfl, ?_⟩; intro wS hSw; have z0 := cell_later hSw c0; have z1 := cell_later hSw g0; have y0 := cell_later hSw E0; go_simp; try with_reducible rfl)
                      simp only [Act.put, List.setIfInBounds_toArray, List.set_cons_zero, List.set_cons_succ]
                      refine wpAnyH_take (i := 2) (oi := ⟨_, _, _, _, _, _⟩) (v := ?v36) rfl (by kernel_rfl) (by kernel_rfl) (by kernel_rfl) (fun _ _ _ h => h) ?y36 hS ?_
                      case y36 => first | (refine Or.inr ⟨by rfl, ?_⟩; with_reducible rfl) | (refine Or.inl ⟨by rfl, ?_⟩; intro wS hSw; have z0 := cell_later hSw c0; have z1 := cell_later hSw g0; have y0 := cell_later hSw E0; go_simp; try with_reducible rfl)
                      simp only [Act.put, List.setIfInBounds_toArray, List.set_cons_zero, List.set_cons_succ]
                      refine wpAnyH_take (i := 3) (oi := ⟨_, _, _, _, _, _⟩) (v := ?v37) rfl (by kernel_rfl) (by kernel_rfl) (by kernel_rfl) (fun _ _ _ h => h) ?y37 hS ?_
                      case y37 => first | (refine Or.inr ⟨by rfl, ?_⟩; with_reducible rfl) | (refine Or.inl ⟨by rfl, ?_⟩; intro wS hSw; have z0 := cell_later hSw c0; have z1 := cell_later hSw g0; have y0 := cell_later hSw E0; go_simp; try with_reducible rfl)
                      simp only [Act.put, List.setIfInBounds_toArray, List.set_cons_zero, List.set_cons_succ]
                      refine wpAnyH_take (i := 4) (oi := ⟨_, _, _, _, _, _⟩) (v := ?v38) rfl (by kernel_rfl) (by kernel_rfl) (by kernel_rfl) (fun _ _ _ h => h) ?y38 hS ?_
                      case y38 => first | (refine Or.inr ⟨by rfl, ?_⟩; with_reducible rfl) | (refine Or.inl ⟨by rfl, ?_⟩; intro wS hSw; have z0 := cell_later hSw c0; have z1 := cell_later hSw g0; have y0 := cell_later hSw E0; go_simp; try with_reducible rfl)
                      simp only [Act.put, List.setIfInBounds_toArray, List.set_cons_zero, List.set_cons_succ]
                      refine wpAnyH_take (i := 5) (oi := ⟨_, _, _, _, _, _⟩) (v := ?v39) rfl (by kernel_rfl) (by kernel_rfl) (by kernel_rfl) (fun _ _ _ h => h) ?y39 hS ?_
                      case y39 => first | (refine Or.inr ⟨by rfl, ?_⟩; with_reducible rfl) | (refine Or.inl ⟨by rfl, ?_⟩; intro wS hSw; have z0 := cell_later hSw c0; have z1 := cell_later hSw g0; have y0 := cell_later hSw E0; go_simp; try with_reducible rfl)
                      simp only [Act.put, List.setIfInBounds_toArray, List.set_cons_zero, List.set_cons_succ]
                      as_aux_lemma =>
                        refine wpAnyH_take (i := 6) (oi := ⟨_, _, _, _, _, _⟩) (v := ?v40) rfl (by kernel_rfl) (by kernel_rfl) (by kernel_rfl) (fun _ _ _ h => h) ?y40 hS ?_
                        case y40 => first | (refine Or.inr ⟨by rfl, ?_⟩; with_reducible rfl) | (refine Or.inl ⟨by rfl, ?_⟩; intro wS hSw; have z0 := cell_later hSw c0; have z1 := cell_later hSw g0; have y0 := cell_later hSw E0; go_simp; try with_reducible rfl)
                        simp only [Act.put, List.setIfInBounds_toArray, List.set_cons_zero, List.set_cons_succ]
                        refine wpAnyH_take (i := 7) (oi := ⟨_, _, _, _, _, _⟩) (v := ?v41) rfl (by kernel_rfl) (by kernel_rfl) (by kernel_rfl) (fun _ _ _ h => h) ?y41 hS ?_
                        case y41 => first | (refine Or.inr ⟨by rfl, ?_⟩; with_reducible rfl) | (refine Or.inl ⟨by rfl, ?_⟩; intro wS hSw; have z0 := cell_later hSw c0; have z1 := cell_later hSw g0; have y0 := cell_later hSw E0; go_simp; try with_reducible rfl)
                        simp only [Act.put, List.setIfInBounds_toArray, List.set_cons_zero, List.set_cons_succ]
                        refine wpAnyH_take (i := 8) (oi := ⟨_, _, _, _, _, _⟩) (v := ?v42) rfl (by kernel_rfl) (by kernel_rfl) (by kernel_rfl) (fun _ _ _ h => h) ?y42 hS ?_
                        case y42 => first | (refine Or.inr ⟨by rfl, ?_⟩; with_reducible rfl) | (refine Or.inl ⟨by rfl, ?_⟩; intro wS hSw; have z0 := cell_later hSw c0; have z1 := cell_later hSw g0; have y0 := cell_later hSw E0; go_simp; try with_reducible rfl)
                        simp only [Act.put, List.setIfInBounds_toArray, List.set_cons_zero, List.set_cons_succ]
                        refine wpAnyH_ready (rs := [9]) (by kernel_rfl) (by simp) ?_
                        refine AllReadyH.cons (o := ⟨_, _, _, _, _, _⟩) rfl (fun K hK => ?_) AllReadyH.nil
                        go_simp
                        refine (HMk.out _ hS).mono ?_
                        rintro e wx ⟨rfl, hb⟩
                        clear hS
                        have HbX := Lib.hid hb
                        clear hb
                        simp only []
                        refine hK.out _ _ HbX.out (fun hS => ?_)
                        clear hK K HbX
                        try simp only [Act.put, List.setIfInBounds_toArray, List.set_cons_zero, List.set_cons_succ]
                        refine wpAnyH_take (i := 10) (oi := ⟨_, _, _, _, _, _⟩) (v := ?v43) rfl (by kernel_rfl) (by kernel_rfl) (by kernel_rfl) (fun _ _ _ h => h) ?y43 hS ?_
                        case y43 => first | (refine Or.inr ⟨by rfl, ?_⟩; with_reducible rfl) | (refine Or.inl ⟨by rfl, ?_⟩; intro wS hSw; have z0 := cell_later hSw c0; have z1 := cell_later hSw g0; have y0 := cell_later hSw E0; go_simp; try with_reducible rfl)
                        simp only [Act.put, List.setIfInBounds_toArray, List.set_cons_zero, List.set_cons_succ]
                        refine wpAnyH_take (i := 11) (oi := ⟨_, _, _, _, _, _⟩) (v := ?v44) rfl (by kernel_rfl) (by kernel_rfl) (by kernel_rfl) (fun _ _ _ h => h) ?y44 hS ?_
                        case y44 => first | (refine Or.inr ⟨by rfl, ?_⟩; with_reducible rfl) | (refine Or.inl ⟨by rfl, ?_⟩; intro wS hSw; have z0 := cell_later hSw c0; have z1 := cell_later hSw g0; have y0 := cell_later hSw E0; go_simp; try with_reducible rfl)
                        simp only [Act.put, List.setIfInBounds_toArray, List.set_cons_zero, List.set_cons_succ]
                        as_aux_lemma =>
                          refine wpAnyH_take (i := 12) (oi := ⟨_, _, _, _, _, _⟩) (v := ?v45) rfl (by kernel_rfl) (by kernel_rfl) (by kernel_rfl) (fun _ _ _ h => h) ?y45 hS ?_
                          case y45 => first | (refine Or.inr ⟨by rfl, ?_⟩; with_reducible rfl) | (refine Or.inl ⟨by rfl, ?_⟩; intro wS hSw; have z0 := cell_later hSw c0; have z1 := cell_later hSw g0; have y0 := cell_later hSw E0; go_simp; try with_reducible rfl)
                          simp only [Act.put, List.setIfInBounds_toArray, List.set_cons_zero, List.set_cons_succ]
                          refine wpAnyH_take (i := 13) (oi := ⟨_, _, _, _, _, _⟩) (v := ?v46) rfl (by kernel_rfl) (by kernel_rfl) (by kernel_rfl) (fun _ _ _ h => h) ?y46 hS ?_
                          case y46 => first | (refine Or.inr ⟨by rfl, ?_⟩; with_reducible rfl) | (refine Or.inl ⟨by rfl, ?_⟩; intro wS hSw; have z0 := cell_later hSw c0; have z1 := cell_later hSw g0; have y0 := cell_later hSw E0; go_simp; try with_reducible rfl)
                          simp only [Act.put, List.setIfInBounds_toArray, List.set_cons_zero, List.set_cons_succ]
                          refine wpAnyH_take (i := 14) (oi := ⟨_, _, _, _, _, _⟩) (v := ?v47) rfl (by kernel_rfl) (by kernel_rfl) (by kernel_rfl) (fun _ _ _ h => h) ?y47 hS ?_
                          case y47 => first | (refine Or.inr ⟨by rfl, ?_⟩; with_reducible rfl) | (refine Or.inl ⟨by rfl, ?_⟩; intro wS hSw; have z0 := cell_later hSw c0; have z1 := cell_later hSw g0; have y0 := cell_later hSw E0; go_simp; try with_reducible rfl)
                          simp only [Act.put, List.setIfInBounds_toArray, List.set_cons_zero, List.set_cons_succ]
                          refine wpAnyH_take (i := 15) (oi := ⟨_, _, _, _, _, _⟩) (v := ?v48) rfl (by kernel_rfl) (by kernel_rfl) (by kernel_rfl) (fun _ _ _ h => h) ?y48 hS ?_
                          case y48 => first | (refine Or.inr ⟨by rfl, ?_⟩; with_reducible rfl) | (refine Or.inl ⟨by rfl, ?_⟩; intro wS hSw; have z0 := cell_later hSw c0; have z1 := cell_later hSw g0; have y0 := cell_later hSw E0; go_simp; try with_reducible rfl)
                          simp only [Act.put, List.setIfInBounds_toArray, List.set_cons_zero, List.set_cons_succ]
                          refine wpAnyH_take (i := 16) (oi := ⟨_, _, _, _, _, _⟩) (v := ?v49) rfl (by kernel_rfl) (by kernel_rfl) (by kernel_rfl) (fun _ _ _ h => h) ?y49 hS ?_
                          case y49 => first | (refine Or.inr ⟨by rfl, ?_⟩; with_reducible rfl) | (refine Or.inl ⟨by rfl, ?_⟩; intro wS hSw; have z0 := cell_later hSw c0; have z1 := cell_later hSw g0; have y0 := cell_later hSw E0; go_simp; try with_reducible rfl)
                          simp only [Act.put, List.setIfInBounds_toArray, List.set_cons_zero, List.set_cons_succ]
                          refine wpAnyH_take (i := 17) (oi := ⟨_, _, _, _, _, _⟩) (v := ?v50) rfl (by kernel_rfl) (by kernel_rfl) (by kernel_rfl) (fun _ _ _ h => h) ?y50 hS ?_
                          case y50 => first | (refine Or.inr ⟨by rfl, ?_⟩; with_reducible rfl) | (refine Or.inl ⟨by rfl, ?_⟩; intro wS hSw; have z0 := cell_later hSw c0; have z1 := cell_later hSw g0; have y0 := cell_later hSw E0; go_simp; try with_reducible rfl)
                          simp only [Act.put, List.setIfInBounds_toArray, List.set_cons_zero, List.set_cons_succ]
                          as_aux_lemma =>
                            refine wpAnyH_take (i := 18) (oi := ⟨_, _, _, _, _, _⟩) (v := ?v51) rfl (by kernel_rfl) (by kernel_rfl) (by kernel_rfl) (fun _ _ _ h => h) ?y51 hS ?_
                            case y51 => first | (refine Or.inr ⟨by rfl, ?_⟩; with_reducible rfl) | (refine Or.inl ⟨by rfl, ?_⟩; intro wS hSw; have z0 := cell_later hSw c0; have z1 := cell_later hSw g0; have y0 := cell_later hSw E0; go_simp; try with_reducible rfl)
                            simp only [Act.put, List.setIfInBounds_toArray, List.set_cons_zero, List.set_cons_succ]
                            refine wpAnyH_take (i := 19) (oi := ⟨_, _, _, _, _, _⟩) (v := ?v52) rfl (by kernel_rfl) (by kernel_rfl) (by kernel_rfl) (fun _ _ _ h => h) ?y52 hS ?_
                            case y52 => first | (refine Or.inr ⟨by rfl, ?_⟩; with_reducible rfl) | (refine Or.inl ⟨by rfl, ?_⟩; intro wS hSw; have z0 := cell_later hSw c0; have z1 := cell_later hSw g0; have y0 := cell_later hSw E0; go_simp; try with_reducible rfl)
                            simp only [Act.put, List.setIfInBounds_toArray, List.set_cons_zero, List.set_cons_succ]
                            refine wpAnyH_take (i := 20) (oi := ⟨_, _, _, _, _, _⟩) (v := ?v53) rfl (by kernel_rfl) (by kernel_rfl) (by kernel_rfl) (fun _ _ _ h => h) ?y53 hS ?_
                            case y53 => first | (refine Or.inr ⟨by rfl, ?_⟩; with_reducible rfl) | (refine Or.inl ⟨by rfl, ?_⟩; intro wS hSw; have z0 := cell_later hSw c0; have z1 := cell_later hSw g0; have y0 := cell_later hSw E0; go_simp; try with_reducible rfl)
                            simp only [Act.put, List.setIfInBounds_toArray, List.set_cons_zero, List.set_cons_succ]
                            refine wpAnyH_take (i := 21) (oi := ⟨_, _, _, _, _, _⟩) (v := ?v54) rfl (by kernel_rfl) (by kernel_rfl) (by kernel_rfl) (fun _ _ _ h => h) ?y54 hS ?_
                            case y54 => first | (refine Or.inr ⟨by rfl, ?_⟩; with_reducible rfl) | (refine Or.inl ⟨by rfl, ?_⟩; intro wS hSw; have z0 := cell_later hSw c0; have z1 := cell_later hSw g0; have y0 := cell_later hSw E0; go_simp; try with_reducible rfl)
                            simp only [Act.put, List.setIfInBounds_toArray, List.set_cons_zero, List.set_cons_succ]
                            refine wpAnyH_take (i := 22) (oi := ⟨_, _, _, _, _, _⟩) (v := ?v55) rfl (by kernel_rfl) (by kernel_rfl) (by kernel_rfl) (fun _ _ _ h => h) ?y55 hS ?_
                            case y55 => first | (refine Or.inr ⟨by rfl, ?_⟩; with_reducible rfl) | (refine Or.inl ⟨by rfl, ?_⟩; intro wS hSw; have z0 := cell_later hSw c0; have z1 := cell_later hSw g0; have y0 := cell_later hSw E0; go_simp; try with_reducible rfl)
                            simp only [Act.put, List.setIfInBounds_toArray, List.set_cons_zero, List.set_cons_succ]
                            refine wpAnyH_take (i := 23) (oi := ⟨_, _, _, _, _, _⟩) (v := ?v56) rfl (by kernel_rfl) (by kernel_rfl) (by kernel_rfl) (fun _ _ _ h => h) ?y56 hS ?_
                            case y56 => first | (refine Or.inr ⟨by rfl, ?_⟩; with_reducible rfl) | (refine Or.inl ⟨by rfl, ?_⟩; intro wS hSw; have z0 := cell_later hSw c0; have z1 := cell_later hSw g0; have y0 := cell_later hSw E0; go_simp; try with_reducible rfl)
                            simp only [Act.put, List.setIfInBounds_toArray, List.set_cons_zero, List.set_cons_succ]
                            as_aux_lemma =>
                              refine wpAnyH_take (i := 24) (oi := ⟨_, _, _, _, _, _⟩) (v := ?v57) rfl (by kernel_rfl) (by kernel_rfl) (by kernel_rfl) (fun _ _ _ h => h) ?y57 hS ?_
                              case y57 => first | (refine Or.inr ⟨by rfl, ?_⟩; with_reducible rfl) | (refine Or.inl ⟨by rfl, ?_⟩; intro wS hSw; have z0 := cell_later hSw c0; have z1 := cell_later hSw g0; have y0 := cell_later hSw E0; go_simp; try with_reducible rfl)
                              simp only [Act.put, List.setIfInBounds_toArray, List.set_cons_zero, List.set_cons_succ]
                              refine wpAnyH_take (i := 25) (oi := ⟨_, _, _, _, _, _⟩) (v := ?v58) rfl (by kernel_rfl) (by kernel_rfl) (by kernel_rfl) (fun _ _ _ h => h) ?y58 hS ?_
                              case y58 => first | (refine Or.inr ⟨by rfl, ?_⟩; with_reducible rfl) | (refine Or.inl ⟨by rfl, ?_⟩; intro wS hSw; have z0 := cell_later hSw c0; have z1 := cell_later hSw g0; have y0 := cell_later hSw E0; go_simp; try with_reducible rfl)
                              simp only [Act.put, List.setIfInBounds_toArray, List.set_cons_zero, List.set_cons_succ]
                              refine wpAnyH_take (i := 26) (oi := ⟨_, _, _, _, _, _⟩) (v := ?v59) rfl (by kernel_rfl) (by kernel_rfl) (by kernel_rfl) (fun _ _ _ h => h) ?y59 hS ?_
                              case y59 => first | (refine Or.inr ⟨by rfl, ?_⟩; with_reducible rfl) | (refine Or.inl ⟨by rfl, ?_⟩; intro wS hSw; have z0 := cell_later hSw c0; have z1 := cell_later hSw g0; have y0 := cell_later hSw E0; go_simp; try with_reducible rfl)
                              simp only [Act.put, List.setIfInBounds_toArray, List.set_cons_zero, List.set_cons_succ]
                              refine wpAnyH_take (i := 27) (oi := ⟨_, _, _, _, _, _⟩) (v := ?v60) rfl (by kernel_rfl) (by kernel_rfl) (by kernel_rfl) (fun _ _ _ h => h) ?y60 hS ?_
                              case y60 => first | (refine Or.inr ⟨by rfl, ?_⟩; with_reducible rfl) | (refine Or.inl ⟨by rfl, ?_⟩; intro wS hSw; have z0 := cell_later hSw c0; have z1 := cell_later hSw g0; have y0 := cell_later hSw E0; go_simp; try with_reducible rfl)
                              simp only [Act.put, List.setIfInBounds_toArray, List.set_cons_zero, List.set_cons_succ]
                              refine wpAnyH_take (i := 28) (oi := ⟨_, _, _, _, _, _⟩) (v := ?v61) rfl (by kernel_rfl) (by kernel_rfl) (by kernel_rfl) (fun _ _ _ h => h) ?y61 hS ?_
                              case y61 => first | (refine Or.inr ⟨by rfl, ?_⟩; with_reducible rfl) | (refine Or.inl ⟨by rfl, ?_⟩; intro wS hSw; have z0 := cell_later hSw c0; have z1 := cell_later hSw g0; have y0 := cell_later hSw E0; go_simp; try with_reducible rfl)
                              simp only [Act.put, List.setIfInBounds_toArray, List.set_cons_zero, List.set_cons_succ]
                              refine wpAnyH_take (i := 29) (oi := ⟨_, _, _, _, _, _⟩) (v := ?v62) rfl (by kernel_rfl) (by kernel_rfl) (by kernel_rfl) (fun _ _ _ h => h) ?y62 hS ?_
                              case y62 => first | (refine Or.inr ⟨by rfl, ?_⟩; with_reducible rfl) | (refine Or.inl ⟨by rfl, ?_⟩; intro wS hSw; have z0 := cell_later hSw c0; have z1 := cell_later hSw g0; have y0 := cell_later hSw E0; go_simp; try with_reducible rfl)
                              simp only [Act.put, List.setIfInBounds_toArray, List.set_cons_zero, List.set_cons_succ]
                              as_aux_lemma =>
                                refine wpAnyH_ready (rs := [30]) (by kernel_rfl) (by simp) ?_
                                refine AllReadyH.cons (o := ⟨_, _, _, _, _, _⟩) rfl (fun K hK => ?_) AllReadyH.nil
                                go_simp
                                refine hK.out _ _ hS (fun _ => ?_)
                                clear hK K
                                try simp only [Act.put, List.setIfInBounds_toArray, List.set_cons_zero, List.set_cons_succ]
                                refine wpAnyH_take (i := 31) (oi := ⟨_, _, _, _, _, _⟩) (v := ?v63) rfl (by kernel_rfl) (by kernel_rfl) (by kernel_rfl) (fun _ _ _ h => h) ?y63 hS ?_
                                case y63 => first | (refine Or.inr ⟨by rfl, ?_⟩; with_reducible rfl) | (refine Or.inl ⟨by rfl, ?_⟩; intro wS hSw; have z0 := cell_later hSw c0; have z1 := cell_later hSw g0; have y0 := cell_later hSw E0; go_simp; try with_reducible rfl)
                                simp only [Act.put, List.setIfInBounds_toArray, List.set_cons_zero, List.set_cons_succ]
                                refine wpAnyH_take (i := 32) (oi := ⟨_, _, _, _, _, _⟩) (v := ?v64) rfl (by kernel_rfl) (by kernel_rfl) (by kernel_rfl) (fun _ _ _ h => h) ?y64 hS ?_
                                case y64 => first | (refine Or.inr ⟨by rfl, ?_⟩; with_reducible rfl) | (refine Or.inl ⟨by rfl, ?_⟩; intro wS hSw; have z0 := cell_later hSw c0; have z1 := cell_later hSw g0; have y0 := cell_later hSw E0; go_simp; try with_reducible rfl)
                                simp only [Act.put, List.setIfInBounds_toArray, List.set_cons_zero, List.set_cons_succ]
                                refine wpAnyH_take (i := 33) (oi := ⟨_, _, _, _, _, _⟩) (v := ?v65) rfl (by kernel_rfl) (by kernel_rfl) (by kernel_rfl) (fun _ _ _ h => h) ?y65 hS ?_
                                case y65 => first | (refine Or.inr ⟨by rfl, ?_⟩; with_reducible rfl) | (refine Or.inl ⟨by rfl, ?_⟩; intro wS hSw; have z0 := cell_later hSw c0; have z1 := cell_later hSw g0; have y0 := cell_later hSw E0; go_simp; try with_reducible rfl)
                                simp only [Act.put, List.setIfInBounds_toArray, List.set_cons_zero, List.set_cons_succ]
                                refine wpAnyH_take (i := 34) (oi := ⟨_, _, _, _, _, _⟩) (v := ?v66) rfl (by kernel_rfl) (by kernel_rfl) (by kernel_rfl) (fun _ _ _ h => h) ?y66 hS ?_
                                case y66 => first | (refine Or.inr ⟨by rfl, ?_⟩; with_reducible rfl) | (refine Or.inl ⟨by rfl, ?_⟩; intro wS hSw; have z0 := cell_later hSw c0; have z1 := cell_later hSw g0; have y0 := cell_later hSw E0; go_simp; try with_reducible rfl)
                                simp only [Act.put, List.setIfInBounds_toArray, List.set_cons_zero, List.set_cons_succ]
                                refine wpAnyH_done (by kernel_rfl) ?_ _
                                as_aux_lemma =>
                                  clear E0
                                  have HF' := Lib.hid (HF.out.later hS)
                                  have HG' := Lib.hid (HG.out.later hS)
                                  have HB' := Lib.hid (HB.out.trans (hS.mono HF.out.bw))
                                  clear hS c0 g0 HMk HF HG HB
                                  go_wp2
                                  go_roundw
                                  case rel => exact ⟨q + 1, by omega, by go_num, HF', HG', HB'.out⟩
                                  case measure => simp [intOf]; omega
                · have hql' : ¬ (q : Int) < (n : Int) + 64 := by omega
                  go_wp2
                  go_roundw
                  case rel => exact ⟨k + 1, by omega, by go_num, HF, HG, HB.out⟩
                  case measure => simp [intOf]; omega
            · have hlt' : ¬ (k : Int) < m := by omega
              go_wp2
              go_loopw [11] (fun i wr => ∃ (k : Nat) (gv : List Value) (Y : Nat → List Int), k ≤ m ∧ i = .int .i64 k ∧ Hid (FsI K B wr (.slice va m vcp) vs m nn F) ∧ Hid (GsI K B wr (.slice va m vcp) vs m nn (.slice (some ⟨gb, 0, none⟩) m m) gv k Y) ∧ Hid (∀ j, j < k → (Y j).take (nn j) = mksI j (nn j)) ∧ Below B w wr) (fun i _ => m - (intOf i).toNat)
              case atStart => exact ⟨0, gv, F, by omega, rfl, HF, Lib.hid HG.out.zero, Lib.hid (fun j hj => absurd hj (by omega)), HB.out⟩
              case round => as_aux_lemma =>
                clear HF HG HB HXm
                obtain ⟨k, gv, Y, hk, rfl, HF, HG, HY, hbel⟩ := hrel
                have HB := Lib.hid hbel
                clear hbel
                by_cases hlt : k < m
                · have hlt' : (k : Int) < m := by omega
                  obtain ⟨lb, rfl, hlb, -, -⟩ := FsI.cell HF.out.ls HF.out.len hlt
                  obtain ⟨gb', he, hgb, -, -⟩ := FsI.cell HG.out.ls HG.out.len hlt
                  simp only [Option.some.injEq, Addr.mk.injEq, and_true] at he
                  subst he
                  have hn1 := HNn.out k hlt
                  have hMs := madeI 64
                  have HMs := Lib.hid hMs
                  clear hMs
                  go_wp2_with (at_make; refine wpList_make_full _ rfl _ _ 27 rfl B 3 i0 (.int .i64 0) 1 Tryz.underlying27 hi0 hz0 hz1 .i64 .i64 _ _ 64 rfl rfl rfl rfl (by rw [hz2]; omega) (by unfold maxLen; omega) HF.out.bw ?_; intro w1 hown1 hg1)
                  rw [HMs.out] at hown1
                  have hb1 : Below wr.heap.size wr w1 := (Below.refl wr.heap.size wr).grown hg1 (Nat.le_refl _) (fun k hk => by simp at hk)
                  have HF1 := Lib.hid (HF.out.later hb1)
                  have HG1 := Lib.hid (HG.out.later hb1)
                  have HB1 := Lib.hid (HB.out.trans (hb1.mono HF.out.bw))
                  have HR1 := Lib.hid (show RowI B w1 (.slice (some ⟨wr.heap.size, 0, none⟩) 64 64) 64 _ from hown1)
                  have HVs := Lib.hid (show ∀ j, j < m → ∀ b, (slAtI vs j).ownBlock = some b → ¬ b = wr.heap.size from fun j hj b hb => by have := ((HF.out.rw j hj).lt b hb).2; omega)
                  have HVg := Lib.hid (show ∀ j, j < k → ∀ b, (slAtI gv j).ownBlock = some b → ¬ b = wr.heap.size from fun j hj b hb => by have := ((HG.out.rw j hj).lt b hb).2; omega)
                  have HVk := Lib.hid (show ∀ q ∈ K, ¬ q.1 = wr.heap.size from fun q hq e => by have := lt_of_block (HF.out.kn q hq).1; omega)
                  have HVl := Lib.hid (show lb ≠ wr.heap.size ∧ gb ≠ wr.heap.size ∧ B ≤ wr.heap.size from ⟨by omega, by omega, HF.out.bw⟩)
                  generalize wr.heap.size = mb at HR1 HVs HVg HVl HVk ⊢
                  clear hown1 hg1 hb1 HF HG HB HMs hlb hgb
                  go_wp2
                  go_loopw [13] (fun i wr => ∃ (q : Nat) (Lm : List Int), q ≤ 64 ∧ i = .int .i64 q ∧ Hid (RowI B wr (.slice (some ⟨mb, 0, none⟩) 64 64) 64 Lm) ∧ Hid (FsI K B wr (.slice (some ⟨lb, 0, none⟩) m vcp) vs m nn F) ∧ Hid (GsI K B wr (.slice (some ⟨lb, 0, none⟩) m vcp) vs m nn (.slice (some ⟨gb, 0, none⟩) m m) gv k Y) ∧ Below B w wr) (fun i _ => 64 - (intOf i).toNat)
                  case atStart => exact ⟨0, _, by omega, rfl, HR1, HF1, HG1, HB1.out⟩
                  case round => as_aux_lemma =>
                    clear HR1 HF1 HG1 HB1
                    obtain ⟨q, Lm, hq, rfl, HR, HF, HG, hbel⟩ := hrel
                    have HB := Lib.hid hbel
                    clear hbel
                    by_cases hql : q < 64
                    · have hql' : (q : Int) < 64 := by omega
                      go_wp2_with fail
                      refine (markI_c ((k : Int) + (m : Int)) q _ ⟨by omega, by omega⟩ ⟨by omega, by omega⟩).mono ?_
                      rintro e wx ⟨rfl, hb⟩
                      have hrow := HR.out.later hb
                      have hqL : q < Lm.length := by rw [← hrow.len]; exact hql
                      have hfx := HF.out.later hb
                      have hgx := HG.out.later hb
                      have hbx := HB.out.trans (hb.mono HF.out.bw)
                      obtain ⟨E0, Ef0⟩ := own_cellC inc_len hrow q hqL 0 (by omega)
                      have E0 : wx.cell? _ = some _ := E0
                      rw [Nat.mul_one, Nat.add_zero] at E0 Ef0
                      have HR' := Lib.hid (hrow.store hqL (1000003 * (((k : Int) + (m : Int)) + 7) + (q : Int)))
                      have HF' := Lib.hid (show FsI K B (wx.setCell ⟨mb, q, none⟩ (.int .i64 (1000003 * (((k : Int) + (m : Int)) + 7) + (q : Int)))) _ vs m nn F from hfx.away (((Keeps.refl (fun b => b = mb) wx).setCell (p := ⟨mb, q, none⟩) rfl _)) (fun b hb e => HVl.out.1 (by simp [Value.ownBlock] at hb; omega)) HVs.out HVk.out)
                      have HG' := Lib.hid (show GsI K B (wx.setCell ⟨mb, q, none⟩ (.int .i64 (1000003 * (((k : Int) + (m : Int)) + 7) + (q : Int)))) _ vs m nn _ gv k Y from hgx.away (((Keeps.refl (fun b => b = mb) wx).setCell (p := ⟨mb, q, none⟩) rfl _)) (fun b hb e => HVl.out.2.1 (by simp [Value.ownBlock] at hb; omega)) HVg.out)
                      have HB' := Lib.hid (show Below B w (wx.setCell ⟨mb, q, none⟩ (.int .i64 (1000003 * (((k : Int) + (m : Int)) + 7) + (q : Int)))) from (hbx.setCell (p := ⟨mb, q, none⟩) HVl.out.2.2 _))
                      clear hrow hfx hgx hbx hb HR HF HG HB
                      go_wp2
                      go_roundw
                      case rel => exact ⟨q + 1, _, by omega, by go_num, HR', HF', HG', HB'.out⟩
                      case measure => simp [intOf]; omega
                    · have hql' : ¬ (q : Int) < 64 := by omega
                      obtain ⟨lb', he, hlb, c0, -⟩ := FsI.cell HF.out.ls HF.out.len hlt
                      simp only [Option.some.injEq, Addr.mk.injEq, and_true] at he
                      subst he
                      have hrow := HF.out.rw k hlt
                      have hcur := CurI.of HF.out HG.out hlt
                      obtain ⟨sa, sc, hsl⟩ := own_val hrow
                      obtain ⟨n, hn⟩ : ∃ n, n = nn k := ⟨_, rfl⟩
                      rw [← hn] at hsl hn1 hrow
                      rw [hsl] at c0 hrow hcur
                      have HN := Lib.hid hn
                      have HRo := Lib.hid hrow
                      have HCu := Lib.hid hcur
                      have HLn := Lib.hid HR.out.len
                      have HFk := Lib.hid (HP2.out k hlt)
                      clear hrow hsl hn hcur hlb
                      go_wp2_with (at_builtin; refine wpList_append_kept _ rfl (.tmp 148) (.tmp 149) 27 rfl B 3 i0 _ 1 8 Tryz.underlying27 hi0 hz0 hz1 hz2 rfl (by decide) _ n _ rfl HRo.out ⟨mb, 0, none⟩ 64 64 (Lm.flatMap inc) rfl (by rw [flat_len inc_len, ← HLn.out]) (World.ownsRow.cells HR.out (g := mb) rfl) (flat_one inc_one _) (by omega) (by unfold maxLen; omega) (by omega) HF.out.bw ?_; intro v' w1 hown' hgrow hkp; have hL : RowI B w1 v' (n + 64) (F k ++ Lm) := (by unfold RowI; rw [List.flatMap_append]; exact hown'); obtain ⟨h1, h2, h3⟩ := growI HF.out HG.out hlt HRo.out HCu.out hL hgrow hkp (by have := HN.out; omega) (by omega) (by rw [List.take_append_of_le_length (by have := HRo.out.len; have := HN.out; omega), List.take_of_length_le (by have := HRo.out.len; have := HN.out; omega)]); obtain ⟨ga, gc, rfl⟩ := own_val hown'; have HF' := Lib.hid h1; have HG' := Lib.hid h2; have HC' := Lib.hid h3; have HL' := Lib.hid hL; have HB' := Lib.hid (HB.out.grown hgrow HF.out.bw (fun b hb => (HRo.out.lt b hb).1)); clear h1 h2 h3 hL hown' hgrow hkp c0; obtain ⟨gb', he, hgb, g0, f0⟩ := FsI.cell HG'.out.ls HG'.out.len hlt; simp only [Option.some.injEq, Addr.mk.injEq, and_true] at he; subst he)
                      have hst := HG'.out.store HF'.out hlt (L := F k ++ Lm) (by rw [← HN.out]; exact HL'.out) HC'.out rfl
                      have HF'' := Lib.hid hst.1
                      have HG'' := Lib.hid hst.2
                      have HB'' := Lib.hid (HB'.out.setCell (p := ⟨gb, k, none⟩) HGb.out (.slice ga (n + 64) gc))
                      clear hst HF HG HB
                      go_wp2
                      go_roundw
                      case rel => exact ⟨k + 1, _, _, by omega, by go_num, HF'', HG'', Lib.hid (fun j hj => by
                        unfold updXI
                        by_cases hjk : j = k
                        · rw [if_pos hjk, hjk, HFk.out, List.take_append_of_le_length (by rw [mksI_len]; exact Nat.le_refl _), List.take_of_length_le (by rw [mksI_len]; exact Nat.le_refl _)]
                        · rw [if_neg hjk]; exact HY.out j (by omega)), HB''.out⟩
                      case measure => simp [intOf]; omega
                · have hlt' : ¬ (k : Int) < m := by omega
                  have hG := HG.out
                  rw [show k = m from by omega] at hG
                  have HGm := Lib.hid hG
                  have HYm := Lib.hid (show ∀ j, j < m → (Y j).take (nn j) = mksI j (nn j) from fun j hj => HY.out j (by omega))
                  clear hG HG HY
                  go_wp2
                  go_loopw [14] (fun i wr => ∃ k : Nat, k ≤ m ∧ i = .int .i64 k ∧ Hid (FsI K B wr (.slice va m vcp) vs m nn F) ∧ Hid (GsI K B wr (.slice va m vcp) vs m nn (.slice (some ⟨gb, 0, none⟩) m m) gv m Y) ∧ Below B w wr) (fun i _ => m - (intOf i).toNat)
                  case atStart => exact ⟨0, by omega, rfl, HF, HGm, HB.out⟩
                  case round => as_aux_lemma =>
                    clear HF HGm HB
                    obtain ⟨k, hk, rfl, HF, HG, hbel⟩ := hrel
                    have HB := Lib.hid hbel
                    clear hbel
                    by_cases hlt : k < m
                    · have hlt' : (k : Int) < m := by omega
                      obtain ⟨lb, rfl, hlb, c0, -⟩ := FsI.cell HF.out.ls HF.out.len hlt
                      have hrow := HF.out.rw k hlt
                      rw [HP2.out k hlt] at hrow
                      obtain ⟨sa, sc, hsl⟩ := own_val hrow
                      have hn1 := HNn.out k hlt
                      have hrg := HG.out.rw k hlt
                      obtain ⟨n, hn⟩ : ∃ n, n = nn k := ⟨_, rfl⟩
                      rw [← hn] at hsl hn1 hrg
                      obtain ⟨ga, gc, hgl⟩ := own_val hrg
                      rw [hgl] at hrg
                      obtain ⟨gg, rfl⟩ := own_pos hrg (by omega)
                      have HSl := Lib.hid hsl
                      have HGl := Lib.hid hgl
                      have HN := Lib.hid hn
                      clear hrow hsl hn hlb hrg hgl c0
                      go_wp2
                      go_loopw [15] (fun i wr => ∃ q : Nat, q ≤ n ∧ i = .int .i64 q ∧ Hid (FsI K B wr (.slice (some ⟨lb, 0, none⟩) m vcp) vs m nn F) ∧ Hid (GsI K B wr (.slice (some ⟨lb, 0, none⟩) m vcp) vs m nn (.slice (some ⟨gb, 0, none⟩) m m) gv m Y) ∧ Below B w wr) (fun i _ => n - (intOf i).toNat)
                      case atStart => exact ⟨0, by omega, rfl, HF, HG, HB.out⟩
                      case round => as_aux_lemma =>
                        clear HF HG HB
                        obtain ⟨q, hq, rfl, HF, HG, hbel⟩ := hrel
                        have HB := Lib.hid hbel
                        clear hbel
                        obtain ⟨gb', he, hgb, g0, -⟩ := FsI.cell HG.out.ls HG.out.len hlt
                        simp only [Option.some.injEq, Addr.mk.injEq, and_true] at he
                        subst he
                        rw [HGl.out] at g0
                        obtain ⟨lb', he, hlb, c0, -⟩ := FsI.cell HF.out.ls HF.out.len hlt
                        simp only [Option.some.injEq, Addr.mk.injEq, and_true] at he
                        subst he
                        rw [HSl.out] at c0
                        by_cases hqn : q < n
                        · have hqn' : (q : Int) < n := by omega
                          have hqb : (q : Int) < ((n + 64 : Nat) : Int) := by omega
                          have hqb2 : (q : Int) < (n : Int) + 64 := by omega
                          have hrg := HG.out.rw k hlt
                          rw [HGl.out, ← HN.out] at hrg
                          have HYq := Lib.hid (show (Y k)[q]'(by rw [← hrg.len]; omega) = mk1I k q from by
                            have h1 := HYm.out k hlt
                            rw [← HN.out] at h1
                            have h2 : ((Y k).take n)[q]'(by rw [List.length_take, ← hrg.len]; omega) = mk1I k q := by
                              simp only [h1]
                              exact mksI_get hqn
                            rw [List.getElem_take] at h2
                            exact h2)
                          have E0 : wr.cell? ⟨gg, q, none⟩ = some (.int .i64 (1000003 * ((k : Int) + 7) + (q : Int))) := by
                            have := (own_cellC inc_len hrg q (by rw [← hrg.len]; omega) 0 (by omega)).1
                            rw [HYq.out] at this
                            rw [Nat.mul_one, Nat.add_zero] at this
                            exact this
                          have HMk := Lib.hid (show ∀ u2, Below wr.heap.size wr u2 → Calls Tryz.prog 84 #[.int .i64 k, .int .i64 q] u2 fun e w' => e = .returned (.int .i64 (1000003 * ((k : Int) + 7) + (q : Int))) ∧ Below wr.heap.size wr w' from fun u2 hu => (markI_c k q u2 ⟨by omega, by omega⟩ ⟨by omega, by omega⟩).mono fun e w' hh => ⟨hh.1, hu.trans (hh.2.mono hu.size)⟩)
                          have hrow := HF.out.rw k hlt
                          rw [HP2.out k hlt, HSl.out, ← HN.out] at hrow
                          obtain ⟨sg, rfl⟩ := own_pos hrow (by omega)
                          have D0 : wr.cell? ⟨sg, q, none⟩ = some (.int .i64 (1000003 * ((k : Int) + 7) + (q : Int))) := by
                            have := (own_cellC inc_len hrow q (by rw [mksI_len]; omega) 0 (by omega)).1
                            rw [mksI_get hqn] at this
                            rw [Nat.mul_one, Nat.add_zero] at this
                            exact this
                          clear hrow HYq hrg
                          go_upto_region 41 with (fail)
                          refine wp_region_held_drew (S := fun u2 => Below wr.heap.size wr u2) (by kernel_rfl) ((Below.refl wr.heap.size wr).drew) (fun hS => ?_)
                          as_aux_lemma =>
                            refine wpAnyH_take (i := 0) (oi := ⟨_, _, _, _, _, _⟩) (v := ?v67) rfl (by kernel_rfl) (by kernel_rfl) (by kernel_rfl) (fun _ _ _ h => h) ?y67 hS ?_
                            case y67 => first | (refine Or.inr ⟨by rfl, ?_⟩; with_reducible rfl) | (refine Or.inl ⟨by rfl, ?_⟩; intro wS hSw; have z0 := cell_later hSw c0; have z1 := cell_later hSw g0; have y0 := cell_later hSw E0; have x0 := cell_later hSw D0; go_simp; try with_reducible rfl)
                            simp only [Act.put, List.setIfInBounds_toArray, List.set_cons_zero, List.set_cons_succ]
                            refine wpAnyH_take (i := 1) (oi := ⟨_, _, _, _, _, _⟩) (v := ?v68) rfl (by kernel_rfl) (by kernel_rfl) (by kernel_rfl) (fun _ _ _ h => h) ?y68 hS ?_
                            case y68 => first | (refine Or.inr ⟨by rfl, ?_⟩; with_reducible rfl) | (refine Or.inl ⟨by rfl, ?_⟩; intro wS hSw; have z0 := cell_later hSw c0; have z1 := cell_later hSw g0; have y0 := cell_later hSw E0; have x0 := cell_later hSw D0; go_simp; try with_reducible rfl)
                            simp only [Act.put, List.setIfInBounds_toArray, List.set_cons_zero, List.set_cons_succ]
                            refine wpAnyH_take (i := 2) (oi := ⟨_, _, _, _, _, _⟩) (v := ?v69) rfl (by kernel_rfl) (by kernel_rfl) (by kernel_rfl) (fun _ _ _ h => h) ?y69 hS ?_
                            case y69 => first | (refine Or.inr ⟨by rfl, ?_⟩; with_reducible rfl) | (refine Or.inl ⟨by rfl, ?_⟩; intro wS hSw; have z0 := cell_later hSw c0; have z1 := cell_later hSw g0; have y0 := cell_later hSw E0; have x0 := cell_later hSw D0; go_simp; try with_reducible rfl)
                            simp only [Act.put, List.setIfInBounds_toArray, List.set_cons_zero, List.set_cons_succ]
                            refine wpAnyH_take (i := 3) (oi := ⟨_, _, _, _, _, _⟩) (v := ?v70) rfl (by kernel_rfl) (by kernel_rfl) (by kernel_rfl) (fun _ _ _ h => h) ?y70 hS ?_
                            case y70 => first | (refine Or.inr ⟨by rfl, ?_⟩; with_reducible rfl) | (refine Or.inl ⟨by rfl, ?_⟩; intro wS hSw; have z0 := cell_later hSw c0; have z1 := cell_later hSw g0; have y0 := cell_later hSw E0; have x0 := cell_later hSw D0; go_simp; try with_reducible rfl)
                            simp only [Act.put, List.setIfInBounds_toArray, List.set_cons_zero, List.set_cons_succ]
                            refine wpAnyH_take (i := 4) (oi := ⟨_, _, _, _, _, _⟩) (v := ?v71) rfl (by kernel_rfl) (by kernel_rfl) (by kernel_rfl) (fun _ _ _ h => h) ?y71 hS ?_
                            case y71 => first | (refine Or.inr ⟨by rfl, ?_⟩; with_reducible rfl) | (refine Or.inl ⟨by rfl, ?_⟩; intro wS hSw; have z0 := cell_later hSw c0; have z1 := cell_later hSw g0; have y0 := cell_later hSw E0; have x0 := cell_later hSw D0; go_simp; try with_reducible rfl)
                            simp only [Act.put, List.setIfInBounds_toArray, List.set_cons_zero, List.set_cons_succ]
                            refine wpAnyH_take (i := 5) (oi := ⟨_, _, _, _, _, _⟩) (v := ?v72) rfl (by kernel_rfl) (by kernel_rfl) (by kernel_rfl) (fun _ _ _ h => h) ?y72 hS ?_
                            case y72 => first | (refine Or.inr ⟨by rfl, ?_⟩; with_reducible rfl) | (refine Or.inl ⟨by rfl, ?_⟩; intro wS hSw; have z0 := cell_later hSw c0; have z1 := cell_later hSw g0; have y0 := cell_later hSw E0; have x0 := cell_later hSw D0; go_simp; try with_reducible rfl)
                            simp only [Act.put, List.setIfInBounds_toArray, List.set_cons_zero, List.set_cons_succ]
                            as_aux_lemma =>
                              refine wpAnyH_take (i := 6) (oi := ⟨_, _, _, _, _, _⟩) (v := ?v73) rfl (by kernel_rfl) (by kernel_rfl) (by kernel_rfl) (fun _ _ _ h => h) ?y73 hS ?_
                              case y73 => first | (refine Or.inr ⟨by rfl, ?_⟩; with_reducible rfl) | (refine Or.inl ⟨by rfl, ?_⟩; intro wS hSw; have z0 := cell_later hSw c0; have z1 := cell_later hSw g0; have y0 := cell_later hSw E0; have x0 := cell_later hSw D0; go_simp; try with_reducible rfl)
                              simp only [Act.put, List.setIfInBounds_toArray, List.set_cons_zero, List.set_cons_succ]
                              refine wpAnyH_take (i := 7) (oi := ⟨_, _, _, _, _, _⟩) (v := ?v74) rfl (by kernel_rfl) (by kernel_rfl) (by kernel_rfl) (fun _ _ _ h => h) ?y74 hS ?_
                              case y74 => first | (refine Or.inr ⟨by rfl, ?_⟩; with_reducible rfl) | (refine Or.inl ⟨by rfl, ?_⟩; intro wS hSw; have z0 := cell_later hSw c0; have z1 := cell_later hSw g0; have y0 := cell_later hSw E0; have x0 := cell_later hSw D0; go_simp; try with_reducible rfl)
                              simp only [Act.put, List.setIfInBounds_toArray, List.set_cons_zero, List.set_cons_succ]
                              refine wpAnyH_take (i := 8) (oi := ⟨_, _, _, _, _, _⟩) (v := ?v75) rfl (by kernel_rfl) (by kernel_rfl) (by kernel_rfl) (fun _ _ _ h => h) ?y75 hS ?_
                              case y75 => first | (refine Or.inr ⟨by rfl, ?_⟩; with_reducible rfl) | (refine Or.inl ⟨by rfl, ?_⟩; intro wS hSw; have z0 := cell_later hSw c0; have z1 := cell_later hSw g0; have y0 := cell_later hSw E0; have x0 := cell_later hSw D0; go_simp; try with_reducible rfl)
                              simp only [Act.put, List.setIfInBounds_toArray, List.set_cons_zero, List.set_cons_succ]
                              refine wpAnyH_ready (rs := [9]) (by kernel_rfl) (by simp) ?_
                              refine AllReadyH.cons (o := ⟨_, _, _, _, _, _⟩) rfl (fun K hK => ?_) AllReadyH.nil
                              go_simp
                              refine (HMk.out _ hS).mono ?_
                              rintro e wx ⟨rfl, hb⟩
                              clear hS
                              have HbX := Lib.hid hb
                              clear hb
                              simp only []
                              refine hK.out _ _ HbX.out (fun hS => ?_)
                              clear hK K HbX
                              try simp only [Act.put, List.setIfInBounds_toArray, List.set_cons_zero, List.set_cons_succ]
                              refine wpAnyH_take (i := 10) (oi := ⟨_, _, _, _, _, _⟩) (v := ?v76) rfl (by kernel_rfl) (by kernel_rfl) (by kernel_rfl) (fun _ _ _ h => h) ?y76 hS ?_
                              case y76 => first | (refine Or.inr ⟨by rfl, ?_⟩; with_reducible rfl) | (refine Or.inl ⟨by rfl, ?_⟩; intro wS hSw; have z0 := cell_later hSw c0; have z1 := cell_later hSw g0; have y0 := cell_later hSw E0; have x0 := cell_later hSw D0; go_simp; try with_reducible rfl)
                              simp only [Act.put, List.setIfInBounds_toArray, List.set_cons_zero, List.set_cons_succ]
                              refine wpAnyH_take (i := 11) (oi := ⟨_, _, _, _, _, _⟩) (v := ?v77) rfl (by kernel_rfl) (by kernel_rfl) (by kernel_rfl) (fun _ _ _ h => h) ?y77 hS ?_
                              case y77 => first | (refine Or.inr ⟨by rfl, ?_⟩; with_reducible rfl) | (refine Or.inl ⟨by rfl, ?_⟩; intro wS hSw; have z0 := cell_later hSw c0; have z1 := cell_later hSw g0; have y0 := cell_later hSw E0; have x0 := cell_later hSw D0; go_simp; try with_reducible rfl)
                              simp only [Act.put, List.setIfInBounds_toArray, List.set_cons_zero, List.set_cons_succ]
                              as_aux_lemma =>
                                refine wpAnyH_take (i := 12) (oi := ⟨_, _, _, _, _, _⟩) (v := ?v78) rfl (by kernel_rfl) (by kernel_rfl) (by kernel_rfl) (fun _ _ _ h => h) ?y78 hS ?_
                                case y78 => first | (refine Or.inr ⟨by rfl, ?_⟩; with_reducible rfl) | (refine Or.inl ⟨by rfl, ?_⟩; intro wS hSw; have z0 := cell_later hSw c0; have z1 := cell_later hSw g0; have y0 := cell_later hSw E0; have x0 := cell_later hSw D0; go_simp; try with_reducible rfl)
                                simp only [Act.put, List.setIfInBounds_toArray, List.set_cons_zero, List.set_cons_succ]
                                refine wpAnyH_take (i := 13) (oi := ⟨_, _, _, _, _, _⟩) (v := ?v79) rfl (by kernel_rfl) (by kernel_rfl) (by kernel_rfl) (fun _ _ _ h => h) ?y79 hS ?_
                                case y79 => first | (refine Or.inr ⟨by rfl, ?_⟩; with_reducible rfl) | (refine Or.inl ⟨by rfl, ?_⟩; intro wS hSw; have z0 := cell_later hSw c0; have z1 := cell_later hSw g0; have y0 := cell_later hSw E0; have x0 := cell_later hSw D0; go_simp; try with_reducible rfl)
                                simp only [Act.put, List.setIfInBounds_toArray, List.set_cons_zero, List.set_cons_succ]
                                refine wpAnyH_take (i := 14) (oi := ⟨_, _, _, _, _, _⟩) (v := ?v80) rfl (by kernel_rfl) (by kernel_rfl) (by kernel_rfl) (fun _ _ _ h => h) ?y80 hS ?_
                                case y80 => first | (refine Or.inr ⟨by rfl, ?_⟩; with_reducible rfl) | (refine Or.inl ⟨by rfl, ?_⟩; intro wS hSw; have z0 := cell_later hSw c0; have z1 := cell_later hSw g0; have y0 := cell_later hSw E0; have x0 := cell_later hSw D0; go_simp; try with_reducible rfl)
                                simp only [Act.put, List.setIfInBounds_toArray, List.set_cons_zero, List.set_cons_succ]
                                refine wpAnyH_take (i := 15) (oi := ⟨_, _, _, _, _, _⟩) (v := ?v81) rfl (by kernel_rfl) (by kernel_rfl) (by kernel_rfl) (fun _ _ _ h => h) ?y81 hS ?_
                                case y81 => first | (refine Or.inr ⟨by rfl, ?_⟩; with_reducible rfl) | (refine Or.inl ⟨by rfl, ?_⟩; intro wS hSw; have z0 := cell_later hSw c0; have z1 := cell_later hSw g0; have y0 := cell_later hSw E0; have x0 := cell_later hSw D0; go_simp; try with_reducible rfl)
                                simp only [Act.put, List.setIfInBounds_toArray, List.set_cons_zero, List.set_cons_succ]
                                refine wpAnyH_take (i := 16) (oi := ⟨_, _, _, _, _, _⟩) (v := ?v82) rfl (by kernel_rfl) (by kernel_rfl) (by kernel_rfl) (fun _ _ _ h => h) ?y82 hS ?_
                                case y82 => first | (refine Or.inr ⟨by rfl, ?_⟩; with_reducible rfl) | (refine Or.inl ⟨by rfl, ?_⟩; intro wS hSw; have z0 := cell_later hSw c0; have z1 := cell_later hSw g0; have y0 := cell_later hSw E0; have x0 := cell_later hSw D0; go_simp; try with_reducible rfl)
                                simp only [Act.put, List.setIfInBounds_toArray, List.set_cons_zero, List.set_cons_succ]
                                refine wpAnyH_take (i := 17) (oi := ⟨_, _, _, _, _, _⟩) (v := ?v83) rfl (by kernel_rfl) (by kernel_rfl) (by kernel_rfl) (fun _ _ _ h => h) ?y83 hS ?_
                                case y83 => first | (refine Or.inr ⟨by rfl, ?_⟩; with_reducible rfl) | (refine Or.inl ⟨by rfl, ?_⟩; intro wS hSw; have z0 := cell_later hSw c0; have z1 := cell_later hSw g0; have y0 := cell_later hSw E0; have x0 := cell_later hSw D0; go_simp; try with_reducible rfl)
                                simp only [Act.put, List.setIfInBounds_toArray, List.set_cons_zero, List.set_cons_succ]
                                as_aux_lemma =>
                                  refine wpAnyH_take (i := 18) (oi := ⟨_, _, _, _, _, _⟩) (v := ?v84) rfl (by kernel_rfl) (by kernel_rfl) (by kernel_rfl) (fun _ _ _ h => h) ?y84 hS ?_
                                  case y84 => first | (refine Or.inr ⟨by rfl, ?_⟩; with_reducible rfl) | (refine Or.inl ⟨by rfl, ?_⟩; intro wS hSw; have z0 := cell_later hSw c0; have z1 := cell_later hSw g0; have y0 := cell_later hSw E0; have x0 := cell_later hSw D0; go_simp; try with_reducible rfl)
                                  simp only [Act.put, List.setIfInBounds_toArray, List.set_cons_zero, List.set_cons_succ]
                                  refine wpAnyH_take (i := 19) (oi := ⟨_, _, _, _, _, _⟩) (v := ?v85) rfl (by kernel_rfl) (by kernel_rfl) (by kernel_rfl) (fun _ _ _ h => h) ?y85 hS ?_
                                  case y85 => first | (refine Or.inr ⟨by rfl, ?_⟩; with_reducible rfl) | (refine Or.inl ⟨by rfl, ?_⟩; intro wS hSw; have z0 := cell_later hSw c0; have z1 := cell_later hSw g0; have y0 := cell_later hSw E0; have x0 := cell_later hSw D0; go_simp; try with_reducible rfl)
                                  simp only [Act.put, List.setIfInBounds_toArray, List.set_cons_zero, List.set_cons_succ]
                                  refine wpAnyH_take (i := 20) (oi := ⟨_, _, _, _, _, _⟩) (v := ?v86) rfl (by kernel_rfl) (by kernel_rfl) (by kernel_rfl) (fun _ _ _ h => h) ?y86 hS ?_
                                  case y86 => first | (refine Or.inr ⟨by rfl, ?_⟩; with_reducible rfl) | (refine Or.inl ⟨by rfl, ?_⟩; intro wS hSw; have z0 := cell_later hSw c0; have z1 := cell_later hSw g0; have y0 := cell_later hSw E0; have x0 := cell_later hSw D0; go_simp; try with_reducible rfl)
                                  simp only [Act.put, List.setIfInBounds_toArray, List.set_cons_zero, List.set_cons_succ]
                                  refine wpAnyH_take (i := 21) (oi := ⟨_, _, _, _, _, _⟩) (v := ?v87) rfl (by kernel_rfl) (by kernel_rfl) (by kernel_rfl) (fun _ _ _ h => h) ?y87 hS ?_
                                  case y87 => first | (refine Or.inr ⟨by rfl, ?_⟩; with_reducible rfl) | (refine Or.inl ⟨by rfl, ?_⟩; intro wS hSw; have z0 := cell_later hSw c0; have z1 := cell_later hSw g0; have y0 := cell_later hSw E0; have x0 := cell_later hSw D0; go_simp; try with_reducible rfl)
                                  simp only [Act.put, List.setIfInBounds_toArray, List.set_cons_zero, List.set_cons_succ]
                                  refine wpAnyH_ready (rs := [22]) (by kernel_rfl) (by simp) ?_
                                  refine AllReadyH.cons (o := ⟨_, _, _, _, _, _⟩) rfl (fun K hK => ?_) AllReadyH.nil
                                  go_simp
                                  refine (HMk.out _ hS).mono ?_
                                  rintro e wx ⟨rfl, hb⟩
                                  clear hS
                                  have HbX := Lib.hid hb
                                  clear hb
                                  simp only []
                                  refine hK.out _ _ HbX.out (fun hS => ?_)
                                  clear hK K HbX
                                  try simp only [Act.put, List.setIfInBounds_toArray, List.set_cons_zero, List.set_cons_succ]
                                  refine wpAnyH_take (i := 23) (oi := ⟨_, _, _, _, _, _⟩) (v := ?v88) rfl (by kernel_rfl) (by kernel_rfl) (by kernel_rfl) (fun _ _ _ h => h) ?y88 hS ?_
                                  case y88 => first | (refine Or.inr ⟨by rfl, ?_⟩; with_reducible rfl) | (refine Or.inl ⟨by rfl, ?_⟩; intro wS hSw; have z0 := cell_later hSw c0; have z1 := cell_later hSw g0; have y0 := cell_later hSw E0; have x0 := cell_later hSw D0; go_simp; try with_reducible rfl)
                                  simp only [Act.put, List.setIfInBounds_toArray, List.set_cons_zero, List.set_cons_succ]
                                  as_aux_lemma =>
                                    refine wpAnyH_take (i := 24) (oi := ⟨_, _, _, _, _, _⟩) (v := ?v89) rfl (by kernel_rfl) (by kernel_rfl) (by kernel_rfl) (fun _ _ _ h => h) ?y89 hS ?_
                                    case y89 => first | (refine Or.inr ⟨by rfl, ?_⟩; with_reducible rfl) | (refine Or.inl ⟨by rfl, ?_⟩; intro wS hSw; have z0 := cell_later hSw c0; have z1 := cell_later hSw g0; have y0 := cell_later hSw E0; have x0 := cell_later hSw D0; go_simp; try with_reducible rfl)
                                    simp only [Act.put, List.setIfInBounds_toArray, List.set_cons_zero, List.set_cons_succ]
                                    refine wpAnyH_take (i := 25) (oi := ⟨_, _, _, _, _, _⟩) (v := ?v90) rfl (by kernel_rfl) (by kernel_rfl) (by kernel_rfl) (fun _ _ _ h => h) ?y90 hS ?_
                                    case y90 => first | (refine Or.inr ⟨by rfl, ?_⟩; with_reducible rfl) | (refine Or.inl ⟨by rfl, ?_⟩; intro wS hSw; have z0 := cell_later hSw c0; have z1 := cell_later hSw g0; have y0 := cell_later hSw E0; have x0 := cell_later hSw D0; go_simp; try with_reducible rfl)
                                    simp only [Act.put, List.setIfInBounds_toArray, List.set_cons_zero, List.set_cons_succ]
                                    refine wpAnyH_done (by kernel_rfl) ?_ _
                                    as_aux_lemma =>
                                      clear E0 D0
                                      have HF' := Lib.hid (HF.out.later hS)
                                      have HG' := Lib.hid (HG.out.later hS)
                                      have HB' := Lib.hid (HB.out.trans (hS.mono HF.out.bw))
                                      clear hS c0 g0 HMk HF HG HB
                                      go_wp2
                                      go_roundw
                                      case rel => exact ⟨q + 1, by omega, by go_num, HF', HG', HB'.out⟩
                                      case measure => simp [intOf]; omega
                        · have hqn' : ¬ (q : Int) < n := by omega
                          go_wp2
                          go_roundw
                          case rel => exact ⟨k + 1, by omega, by go_num, HF, HG, HB.out⟩
                          case measure => simp [intOf]; omega
                    · have hlt' : ¬ (k : Int) < m := by omega
                      go_wp2
                      go_ret
                      first | exact ⟨rfl, HB.out, fun q hq => (HF.out.kn q hq).1⟩ | exact ⟨rfl, HB.out, fun q o hq => (HF.out.kn (q, o) hq).1⟩
end Go.Proofs.YtadkjjpopmiceaaGreat
