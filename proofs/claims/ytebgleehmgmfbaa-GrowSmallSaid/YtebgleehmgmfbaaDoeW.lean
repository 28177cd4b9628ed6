/-
  Chapter 26: the walk of GrowDoes.
-/
import Derived.Test.YtebgleehmgmfbaaTwi
namespace Go.Proofs.Ytebgleehmgmfbaa
open Go.RowKit Go.Lib

theorem pr_eql0 (a b c d : Int) (w : World) : (binOp .eql 24 (.agg #[.int .i64 a, .int .i64 b]) (.agg #[.int .i64 c, .int .i64 d])).run Try.prog w = .ok (.bool (a == c && b == d)) w := by
  by_cases h1 : a = c
  · by_cases h2 : b = d
    · subst h1; subst h2
      go_simp
    · have h3 : (b == d) = false := by simpa using h2
      subst h1
      go_simp
  · have h3 : (a == c) = false := by simpa using h1
    go_simp
theorem pr_eql (p q : Pr) (w : World) : (binOp .eql 24 (.agg #[.int .i64 p.1, .int .i64 p.2]) (.agg #[.int .i64 q.1, .int .i64 q.2])).run Try.prog w = .ok (.bool (decide (p = q))) w := by
  obtain ⟨a, b⟩ := p
  obtain ⟨c, d⟩ := q
  have hd : decide (((a, b) : Pr) = (c, d)) = (a == c && b == d) := by
    rw [Bool.eq_iff_iff]; simp
  rw [hd]
  exact pr_eql0 a b c d w
/-- the row of the live pairs, as pairs. -/
theorem prs_of {w : World} {base : Nat} {e : TypeId} {v : Value} {F : Live} (h : w.ownsRow base e 2 v F.length (pcs F)) : PrsAt w v (F.map (·.1)) := by
  have e1 : (F.map (·.1)).flatMap prc = pcs F := by simp [pcs, prc, List.flatMap_map]
  have := own_rows (f := prc) (l := F.map (·.1)) (n := F.length) prc_len (by simp) (by rw [e1]; exact h)
  exact this
theorem two_box {w : World} {b : Nat} {x0 x1 : Value} {t : TypeId} (h : w.heap[b]? = some (.cells #[x0, x1] t (0, 0))) : w.cell? ⟨b, 0, none⟩ = some x0 ∧ w.cell? ⟨b, 1, none⟩ = some x1 := by
  simp [World.cell?, h]

theorem mem_take (K : List Pr) (k : Nat) (hk : k < K.length) (p : Pr) : decide (p ∈ K.take (k + 1)) = (decide (p ∈ K.take k) || decide (K[k] = p)) := by
  rw [List.take_succ_eq_append_getElem hk, Bool.eq_iff_iff]
  simp only [List.mem_append, List.mem_singleton, Bool.or_eq_true, decide_eq_true_eq]
  constructor
  · rintro (h | h)
    · exact .inl h
    · exact .inr h.symm
  · rintro (h | h)
    · exact .inl h
    · exact .inr h.symm
theorem rd_cells {w : World} {base : Nat} {e : TypeId} {ao : Option Addr} {cap n : Nat} {l : List An} {lev : Int} (h : w.ownsRow base e 3 (.slice ao n cap) n ((rdsA l lev n).flatMap rdc)) (i : Nat) (hi : i < n) : ∃ b off, ao = some ⟨b, off, none⟩ ∧
    w.cell? ⟨b, off + i * 3, none⟩ = some (.int .i64 (rdA l lev i).1) ∧ w.cell? ⟨b, off + i * 3 + 1, none⟩ = some (.int .i64 (rdA l lev i).2.1) ∧ w.cell? ⟨b, off + i * 3 + 2, none⟩ = some (.int .i64 (rdA l lev i).2.2) := by
  have hr := own_rows (f := rdc) (l := rdsA l lev n) (n := n) (fun _ => rfl) (by rw [rdsA_len]) h
  obtain ⟨ao', b, off, cap', hv, -, -, -, ha, -, hc⟩ := hr
  simp only [Value.slice.injEq, List.length_map] at hv ha
  obtain ⟨rfl, -, rfl⟩ := hv
  have hl : i < (rdsA l lev n).length := by rw [rdsA_len]; exact hi
  have hg : (rdsA l lev n)[i] = rdA l lev i := by simp [rdsA]
  refine ⟨b, off, (ha (by omega)).1, ?_, ?_, ?_⟩
  · have := hc i (by simpa using hl) 0 (by omega)
    simpa [rdc, hg] using this
  · have := hc i (by simpa using hl) 1 (by omega)
    simpa [rdc, hg] using this
  · have := hc i (by simpa using hl) 2 (by omega)
    simpa [rdc, hg] using this
/-- twigs that lie elsewhere stay. -/
theorem off_keep {w w' : World} {v : Value} {t : List Tw} {gl : List Lnt} (h : TwAt w v t) (ho : Off v gl) (hk : Keeps (fun k => k ∈ gl.map (·.1)) w w') : TwAt w' v t := by
  cases t with
  | nil => exact h.empty
  | cons x r =>
    refine RowsAt.keeps (by omega) h hk fun k ⟨off, n, cap, e⟩ hS => ?_
    obtain ⟨y, hy, he⟩ := List.mem_map.1 hS
    have hn : n = (x :: r).length := by
      obtain ⟨ao', cap', e'⟩ := h.val
      rw [e] at e'
      simp only [Value.slice.injEq] at e'
      exact e'.2.1
    exact ho k off n cap e (by rw [hn]; simp) y hy he
set_option maxRecDepth 100000 in
set_option maxHeartbeats 4000000 in
theorem growDoes_main (pv av : Value) {L : List Pr} {p : Pr} {lev : Int} {l : List An} (w : World) (hp : PrsAt w pv L) (hpw : ∀ p ∈ L, W64 p) (hw : W64 p) (ha : AnsAt w av l) (hzm : l.length ≤ 140737488355328) (hqm : L.length ≤ 140737488355328) (hbt : ∀ k, (atA l k).tree.length ≤ 140737488355328) :
    Calls Try.prog 3 #[pv, .agg #[.int .i64 p.1, .int .i64 p.2], .int .i64 lev, av] w fun e w' => e = .returned (.bool true) ∧ Below w.heap.size w w' := by
  have hTs := stops_some l
  obtain ⟨T, hTl, hT⟩ := hTs
  have HT := Lib.hid hT
  have HTl := Lib.hid hTl
  clear hT hTl
  have HP := Lib.hid (fun (wq : World) (hb : Below w.heap.size w wq) => hp.later hb)
  have HPw := Lib.hid hpw
  have HW := Lib.hid hw
  have HA := Lib.hid ha
  have HZ := Lib.hid (fun (wq : World) (hb : Below w.heap.size w wq) => size_any av pv wq (ha.later hb) (hp.later hb) hzm hqm hbt)
  obtain ⟨aao, acap, rfl⟩ := ha.val
  obtain ⟨z, hz⟩ : ∃ z, z = l.length := ⟨_, rfl⟩
  have Hz := Lib.hid hz
  rw [← hz] at HA HZ ⊢
  clear hp hpw hw ha hzm hqm hbt hz
  go_enter Try.func3, Try.ntmps3
  go_upto_region 1 with (fail)
  obtain ⟨hb1, hx1⟩ := one_new w (.cells #[.int .i64 p.1, .int .i64 p.2] 24 (0, 0))
  refine gen_world (S := fun u => Below w.heap.size w u ∧ u.heap[w.heap.size]? = some (.cells #[.int .i64 p.1, .int .i64 p.2] 24 (0, 0))) ⟨hb1, hx1⟩ (fun u hu => ?_)
  obtain ⟨B, hB⟩ : ∃ B, B = w.heap.size := ⟨_, rfl⟩
  rw [← hB] at hu hx1 ⊢
  obtain ⟨hb, hx⟩ := hu
  rw [hB] at hb
  have Hb := Lib.hid hb
  have HX := Lib.hid hx
  have HB := Lib.hid hB
  clear hb1 hx1 hb hx hB
  go_wp2_with fail
  refine (HZ.out u Hb.out).mono ?_
  rintro e w2 ⟨n, rfl, hn, hb2⟩
  have Hn := Lib.hid hn
  have HX2 := Lib.hid ((hb2.block _ (lt_of_block HX.out)).trans HX.out)
  have HB2 := Lib.hid (Hb.out.trans (hb2.mono Hb.out.size))
  clear hn hb2 HX Hb HZ
  by_cases h200 : n ≤ 200
  · have hg : decide (200 < n) = false := by simpa using h200
    have hg2 : ¬ 200 < n := by omega
    obtain ⟨hl, hL, ht⟩ := Hn.out h200
    have Hl := Lib.hid hl
    have HL := Lib.hid hL
    have Ht := Lib.hid ht
    clear h200 hl hL ht
    go_wp2_with fail
    refine (begun_any pv w2 (HP.out w2 HB2.out) HPw.out (by have := HL.out; omega)).mono ?_
    rintro e w3 ⟨F, sv, v2, rfl, hst, hrow, hbg, hb3⟩
    obtain ⟨fo, fc, rfl⟩ := own_val hrow
    have HX3 := Lib.hid ((hb3.block _ (lt_of_block HX2.out)).trans HX2.out)
    have HB3 := Lib.hid (HB2.out.trans (hb3.mono HB2.out.size))
    have HSt := Lib.hid hst
    have HRow := Lib.hid hrow
    have HBg := Lib.hid hbg
    have HFl := Lib.hid (show F.length ≤ 200 from Nat.le_trans hbg.le HL.out)
    obtain ⟨b2, hb2e⟩ : ∃ b2, b2 = w2.heap.size := ⟨_, rfl⟩
    rw [← hb2e] at HSt HRow ⊢
    have Hb2 := Lib.hid (show w.heap.size ≤ b2 by rw [hb2e]; exact HB2.out.size)
    have HBB := Lib.hid (show B < b2 by rw [hb2e]; exact lt_of_block HX2.out)
    clear hst hrow hbg hb3 hb2e HB2 HX2
    obtain ⟨q, hq⟩ : ∃ q, q = F.length := ⟨_, rfl⟩
    have Hq := Lib.hid hq
    rw [← hq] at HRow HFl ⊢
    clear hq
    go_wp2_with fail
    go_loopw [11, 12] (fun v11 v12 wr => ∃ k : Nat, k ≤ q ∧ v12 = .int .i64 k ∧ v11 = .bool (decide (p ∈ (F.map (·.1)).take k)) ∧ Below w3.heap.size w3 wr) (fun _ i _ => q - (intOf i).toNat)
    case atStart => exact ⟨0, Nat.zero_le _, rfl, by simp, Below.refl _ _⟩
    case round =>
      obtain ⟨k, hk, rfl, rfl, hbel⟩ := hrel
      have Hbel := Lib.hid hbel
      have hx := (hbel.block _ (lt_of_block HX3.out)).trans HX3.out
      obtain ⟨b0, b1⟩ := two_box hx
      have Hrw := Lib.hid (row_keepT (T := []) (B := 0) (mp := false) HRow.out (KeepT.ofBelow hbel) (by simp))
      clear hbel hx
      by_cases hlt : k < q
      · have hlt' : (k : Int) < q := by omega
        have hw9 : IntKind.i64.wrap ((k : Int) + 1) = (k : Int) + 1 := IntWalk.i64_in _ (by have := HFl.out; omega)
        have hkF : k < (F.map (·.1)).length := by rw [List.length_map, ← Hq.out]; exact hlt
        have hrow := Hrw.out
        rw [Hq.out] at hrow
        obtain ⟨fb, ff, rfl, hbl, l0, l1⟩ := (prs_of hrow).cells.2.2.2.2 k hkF
        have hmem := mem_take (F.map (·.1)) k hkF p
        have HMem := Lib.hid hmem
        generalize (F.map (·.1))[k] = pk at *
        have Hlt := Lib.hid hlt
        have qE := pr_eql pk p
        clear hmem hrow hkF hlt hk hbl
        cases htw : decide (p ∈ (F.map (·.1)).take k) with
        | true =>
          have HTw := Lib.hid htw
          clear htw
          go_upto_region 8 with (fail)
          go_region
          all_goals go_wp2_with fail
          all_goals go_roundw
          case rel => exact ⟨k + 1, Hlt.out, by go_num, by rw [HMem.out, HTw.out]; simp, Hbel.out.drew⟩
          case measure => have := Hlt.out; simp [intOf]; omega
        | false =>
          have HTw := Lib.hid htw
          clear htw
          go_upto_region 8 with (fail)
          go_region
          all_goals go_wp2_with fail
          all_goals go_roundw
          case rel => exact ⟨k + 1, Hlt.out, by go_num, by rw [HMem.out, HTw.out]; simp, Hbel.out.drew⟩
          case measure => have := Hlt.out; simp [intOf]; omega
      · have hlt' : ¬ (k : Int) < q := by omega
        have hkq : k = (F.map (·.1)).length := by rw [List.length_map, ← Hq.out]; omega
        have htk : (F.map (·.1)).take k = F.map (·.1) := by rw [hkq, List.take_length]
        rw [htk]
        have HSr := Lib.hid (HSt.out.later Hbel.out)
        have HXr := Lib.hid ((Hbel.out.block _ (lt_of_block HX3.out)).trans HX3.out)
        have HBr := Lib.hid (HB3.out.trans (Hbel.out.mono HB3.out.size))
        clear hk hlt hkq htk HSt HX3 HB3 HRow Hbel
        go_upto_region 10 with (fail)
        refine gen_world (S := fun u => Below wr.heap.size wr u ∧ u.heap[wr.heap.size]? = some (.cells #[.pointer (some ⟨b2 + 1, 0, none⟩), .int .i64 p.1, .int .i64 p.2, .int .i64 lev, .slice aao z acap, .slice none 0 0, .slice none 0 0, .bool true] 35 (0, 0))) (one_new wr _) (fun u4 hu => ?_)
        obtain ⟨hb4, hs4⟩ := hu
        have hx4 := (hb4.block _ (lt_of_block HXr.out)).trans HXr.out
        have HS4 := Lib.hid (HSr.out.later hb4)
        have HR4 := Lib.hid (row_keepT (T := []) (B := 0) (mp := false) Hrw.out (KeepT.ofBelow hb4) (by simp))
        have HB4 := Lib.hid (HBr.out.trans (hb4.mono HBr.out.size))
        have hbS : b2 ≤ wr.heap.size := Nat.le_of_lt (Nat.lt_of_le_of_lt HSr.out.bs (lt_of_block HSr.out.blk))
        obtain ⟨Sb, hSb⟩ : ∃ Sb, Sb = wr.heap.size := ⟨_, rfl⟩
        rw [← hSb] at hs4 hbS ⊢
        have HC4 := Lib.hid hs4
        have HbS := Lib.hid hbS
        clear b0 b1
        obtain ⟨b0, b1⟩ := two_box hx4
        clear hb4 hs4 hx4 hbS hSb HSr HXr HBr Hrw
        by_cases hpm : p ∈ F.map (·.1)
        · have hd : decide (p ∈ F.map (·.1)) = true := by simpa using hpm
          rw [hd]
          have Hpm := Lib.hid hpm
          clear hd hpm
          obtain ⟨f, hf⟩ : ∃ f, (p, f) ∈ F := by
            obtain ⟨x, hx, he⟩ := List.mem_map.1 Hpm.out
            exact ⟨x.2, by rw [← he]; exact hx⟩
          have Hf := Lib.hid hf
          clear hf
          go_wp2_with fail
          refine (grow_twice u4 HS4.out Hf.out).mono ?_
          rintro e w5 ⟨rfl, hb5⟩
          have HS5 := Lib.hid (HS4.out.later hb5)
          have HR5 := Lib.hid (row_keepT (T := []) (B := 0) (mp := false) HR4.out (KeepT.ofBelow hb5) (by simp))
          have HB5 := Lib.hid (HB4.out.trans (hb5.mono HB4.out.size))
          have HC5 := Lib.hid ((hb5.block _ (lt_of_block HC4.out)).trans HC4.out)
          clear hb5 b0 b1 HS4 HR4 HB4 HC4
          go_upto_region 12 with (fail)
          refine gen_world (S := fun u => Below w5.heap.size w5 u ∧ u.heap[w5.heap.size]? = some (.cells #[.bool false, .int .i64 0, .int .i64 0, .slice none 0 0] 38 (0, 0))) (one_new w5 _) (fun u6 hu => ?_)
          obtain ⟨hb6, hx6⟩ := hu
          have has := as_any (k := L.length) (.slice fo F.length fc) u6 (HS5.out.later hb6) HBg.out (prs_of (by rw [← Hq.out]; exact row_keepT (T := []) (B := 0) (mp := false) HR5.out (KeepT.ofBelow hb6) (by simp))) (by have := HFl.out; rw [Hq.out] at this; omega) (by have := HL.out; omega)
          rw [← Hq.out] at has
          have HAs := Lib.hid has
          have HB6 := Lib.hid (HB5.out.trans (hb6.mono HB5.out.size))
          have hc6 := (hb6.block _ (lt_of_block HC5.out)).trans HC5.out
          have s5 := (block_cell' hc6 5).1
          have s5 := s5.trans (show _ = some (.slice none 0 0) from rfl)
          obtain ⟨x0, x1, x2, x3, -⟩ := four_box hx6
          clear has hb6 hx6 hc6 HS5 HR5 HB5 HC5
          go_wp2_with fail
          refine HAs.out.mono ?_
          rintro e w7 ⟨rfl, hb7⟩
          have HB7 := Lib.hid (HB6.out.trans (hb7.mono HB6.out.size))
          clear hb7 x0 x1 x2 x3 s5 HAs
          go_wp2_with fail
          refine (awake_any w7).mono ?_
          rintro e w8 ⟨rfl, hb8⟩
          have HB8 := Lib.hid (HB7.out.trans (hb8.mono HB7.out.size))
          clear hb8
          go_wp2
          go_ret
          exact ⟨rfl, HB8.out⟩
        · have hd : decide (p ∈ F.map (·.1)) = false := by simpa using hpm
          rw [hd]
          have Hpm := Lib.hid hpm
          have hb2u : b2 ≤ u4.heap.size := Nat.le_of_lt (Nat.lt_of_le_of_lt HS4.out.bs (lt_of_block HS4.out.blk))
          have hans : @AnsS noWatch b2 u4 (.slice aao z acap) l := fun w' hk => HA.out.later (HB4.out.trans ((KeepT.below hk hb2u).mono Hb2.out))
          have HG := Lib.hid (grow_new (lev := lev) u4 HS4.out (fun x hx e => Hpm.out (List.mem_map.2 ⟨x, hx, e⟩)) HW.out (by have := HFl.out; rw [Hq.out] at this; omega) HC4.out HbS.out hans (by have := Hl.out; have := Hz.out; omega) (fun a ha => by
            obtain ⟨i, hi, rfl⟩ := List.getElem_of_mem ha
            have := Ht.out i
            rw [atA_lt hi] at this
            omega) HT.out)
          obtain ⟨R, hR⟩ : ∃ R, R = grR l T := ⟨_, rfl⟩
          rw [← hR] at HG
          have HR := Lib.hid hR
          have Hb2u := Lib.hid hb2u
          unfold bodyF at HG
          clear hd hpm hans hR hb2u
          go_wp2_with fail
          refine HG.out.mono ?_
          rintro e w5 ⟨v, rv, rl, gl, sv5, rfl, hs5, hc5, htr, hv5, hoff, hk5, -⟩
          obtain ⟨vo, vc, rfl⟩ := hv5.1.val
          have HS5 := Lib.hid hs5
          have HC5 := Lib.hid hc5
          have Htr := Lib.hid htr
          have HV5 := Lib.hid hv5
          have Hoff := Lib.hid hoff
          have HR5 := Lib.hid (row_keepT HR4.out hk5 (by decide))
          have HB5 := Lib.hid (HB4.out.trans ((KeepT.below hk5 Hb2u.out).mono Hb2.out))
          clear hs5 hc5 htr hv5 hoff hk5 HG b0 b1 HS4 HR4 HB4 HC4
          go_upto_region 13 with (fail)
          refine gen_world (S := fun u => Below w5.heap.size w5 u ∧ u.heap[w5.heap.size]? = some (.cells #[.bool R.is, .int .i64 R.en, .int .i64 R.far, .slice vo R.tree.length vc] 38 (0, 0))) (one_new w5 _) (fun u6 hu => ?_)
          obtain ⟨hb6, hx6⟩ := hu
          have HS6 := Lib.hid (HS5.out.later hb6)
          have HC6 := Lib.hid (HC5.out.later hb6)
          have HV6 := Lib.hid (HV5.out.later hb6)
          have HR6 := Lib.hid (row_keepT (T := []) (B := 0) (mp := false) HR5.out (KeepT.ofBelow hb6) (by simp))
          have HB6 := Lib.hid (HB5.out.trans (hb6.mono HB5.out.size))
          have HX6 := Lib.hid hx6
          obtain ⟨X, hX⟩ : ∃ X, X = w5.heap.size := ⟨_, rfl⟩
          rw [← hX] at HX6 ⊢
          have hgf := refGrow_any (.slice aao z acap) u6 (HA.out.later HB6.out) (by have := Hl.out; have := Hz.out; omega) HT.out
          rw [← HR.out] at hgf
          have HGf := Lib.hid hgf
          clear hb6 hx6 hX hgf HS5 HC5 HV5 HR5 HB5
          go_wp2_with fail
          refine HGf.out.mono ?_
          rintro e w7 ⟨v', rfl, htw, hb7⟩
          obtain ⟨vo', vc', rfl⟩ := (htw w HA.out).val
          have HTw := Lib.hid (htw w HA.out)
          have HS7 := Lib.hid (HS6.out.later hb7)
          have HC7 := Lib.hid (HC6.out.later hb7)
          have HV7 := Lib.hid (HV6.out.later hb7)
          have HR7 := Lib.hid (row_keepT (T := []) (B := 0) (mp := false) HR6.out (KeepT.ofBelow hb7) (by simp))
          have HB7 := Lib.hid (HB6.out.trans (hb7.mono HB6.out.size))
          have HX7 := Lib.hid ((hb7.block _ (lt_of_block HX6.out)).trans HX6.out)
          clear htw hb7 HGf HS6 HC6 HV6 HR6 HB6 HX6
          go_upto_region 14 with (fail)
          refine gen_world (S := fun u => Below w7.heap.size w7 u ∧ u.heap[w7.heap.size]? = some (.cells #[.bool R.is, .int .i64 R.en, .int .i64 R.far, .slice vo' R.tree.length vc'] 38 (0, 0))) (one_new w7 _) (fun u8 hu => ?_)
          obtain ⟨hb8, hy8⟩ := hu
          have HS8 := Lib.hid (HS7.out.later hb8)
          have HC8 := Lib.hid (HC7.out.later hb8)
          have HV8 := Lib.hid (HV7.out.later hb8)
          have HR8 := Lib.hid (row_keepT (T := []) (B := 0) (mp := false) HR7.out (KeepT.ofBelow hb8) (by simp))
          have HB8 := Lib.hid (HB7.out.trans (hb8.mono HB7.out.size))
          have HX8 := Lib.hid ((hb8.block _ (lt_of_block HX7.out)).trans HX7.out)
          have HY8 := Lib.hid hy8
          obtain ⟨Y, hY⟩ : ∃ Y, Y = w7.heap.size := ⟨_, rfl⟩
          rw [← hY] at HY8 ⊢
          obtain ⟨T1, hT1⟩ : ∃ T1, T1 = T + 1 := ⟨_, rfl⟩
          have hff := refFound_any (.slice aao z acap) u8 (HA.out.later HB8.out) (by have := Hl.out; have := Hz.out; omega) HT.out
          rw [← hT1] at hff HC8 Htr
          have HFf := Lib.hid hff
          have HT1 := Lib.hid hT1
          clear hb8 hy8 hY hff hT1 HS7 HC7 HV7 HR7 HB7 HX7
          go_wp2_with fail
          refine HFf.out.mono ?_
          rintro e w9 ⟨fv, rfl, hfr, hb9⟩
          obtain ⟨fvo, fvc, rfl⟩ := own_val hfr
          have HFr := Lib.hid hfr
          have HS9 := Lib.hid (HS8.out.later hb9)
          have HC9 := Lib.hid (HC8.out.later hb9)
          have HV9 := Lib.hid (HV8.out.later hb9)
          have HR9 := Lib.hid (row_keepT (T := []) (B := 0) (mp := false) HR8.out (KeepT.ofBelow hb9) (by simp))
          have HB9 := Lib.hid (HB8.out.trans (hb9.mono HB8.out.size))
          have HX9 := Lib.hid ((hb9.block _ (lt_of_block HX8.out)).trans HX8.out)
          have HY9 := Lib.hid ((hb9.block _ (lt_of_block HY8.out)).trans HY8.out)
          obtain ⟨rvo, rvc, rfl⟩ := own_val HC9.out.row
          rw [rdsA_len] at HC9
          obtain ⟨-, -, -, -, -, s5, -, s7, -⟩ := HC9.out.cells
          obtain ⟨x0, x1, x2, x3, -⟩ := four_box HX9.out
          obtain ⟨y0, y1, y2, y3, -⟩ := four_box HY9.out
          clear hfr hb9 HFf HS8 HC8 HV8 HR8 HB8 HX8 HY8
          go_wp2_with fail
          refine (kept_any w9 HC9.out (HA.out.later HB9.out) Htr.out (fun n => by have := Ht.out n; omega)).mono ?_
          rintro e w10 ⟨rfl, hk10⟩
          have hkt : @KeepT noWatch b2 [60] false w9 w10 := Keeps.mono hk10 fun k _ hk => by
            obtain ⟨x, hx, rfl⟩ := List.mem_map.1 hk
            exact ⟨HC9.out.far x hx, by unfold Tyb; rw [HC9.out.lents x hx]; simp⟩
          have hb2w : b2 ≤ w9.heap.size := Nat.le_trans HbS.out (Nat.le_of_lt (lt_of_block HC9.out.blk))
          have HB10 := Lib.hid (HB9.out.trans ((KeepT.below hkt hb2w).mono Hb2.out))
          have HS10 := Lib.hid (HS9.out.stay (fun x hx => (HBg.out.all x hx).2.2.1) hkt (by decide) (by decide))
          have HR10 := Lib.hid (row_keepT HR9.out hkt (by decide))
          have HX10 := Lib.hid (hkt.cells HX9.out (by decide))
          have HY10 := Lib.hid (hkt.cells HY9.out (by decide))
          have HF10 := Lib.hid (row_keepT HFr.out hkt (by decide))
          have HD10 := Lib.hid (hkt.cells HC9.out.blk (by decide))
          have hrd10 := row_keepT HC9.out.row hkt (by decide)
          rw [rdsA_len] at hrd10
          have HRd10 := Lib.hid hrd10
          have HSF := Lib.hid (sameFound_any R.is R.en R.far (.slice vo R.tree.length vc) (.slice vo' R.tree.length vc') R.tree w10 (off_keep HV9.out.1 Hoff.out hk10) (HTw.out.later HB10.out))
          clear hrd10 hk10 hkt hb2w s5 s7 x0 x1 x2 x3 y0 y1 y2 y3 HS9 HC9 HV9 HR9 HX9 HY9 HFr HB9
          obtain ⟨x0, x1, x2, x3, -⟩ := four_box HX10.out
          obtain ⟨y0, y1, y2, y3, -⟩ := four_box HY10.out
          go_wp2_with fail
          refine HSF.out.mono ?_
          rintro e w11 ⟨rfl, hb11⟩
          have has := as_any (k := L.length) (.slice fo F.length fc) w11 (HS10.out.later hb11) HBg.out (prs_of (by rw [← Hq.out]; exact row_keepT (T := []) (B := 0) (mp := false) HR10.out (KeepT.ofBelow hb11) (by simp))) (by have := HFl.out; rw [Hq.out] at this; omega) (by have := HL.out; omega)
          rw [← Hq.out] at has
          have HAs := Lib.hid has
          have HB11 := Lib.hid (HB10.out.trans (hb11.mono HB10.out.size))
          have HF11 := Lib.hid (row_keepT (T := []) (B := 0) (mp := false) HF10.out (KeepT.ofBelow hb11) (by simp))
          have HD11 := Lib.hid ((hb11.block _ (lt_of_block HD10.out)).trans HD10.out)
          have HRd11 := Lib.hid (row_keepT (T := []) (B := 0) (mp := false) HRd10.out (KeepT.ofBelow hb11) (by simp))
          clear has hb11 x0 x1 x2 x3 y0 y1 y2 y3 HSF HS10 HR10 HX10 HY10 HF10 HD10 HRd10 HB10
          go_wp2_with fail
          refine HAs.out.mono ?_
          rintro e w12 ⟨rfl, hb12⟩
          have HB12 := Lib.hid (HB11.out.trans (hb12.mono HB11.out.size))
          have HF12 := Lib.hid (row_keepT (T := []) (B := 0) (mp := false) HF11.out (KeepT.ofBelow hb12) (by simp))
          have HD12 := Lib.hid ((hb12.block _ (lt_of_block HD11.out)).trans HD11.out)
          have HRd12 := Lib.hid (row_keepT (T := []) (B := 0) (mp := false) HRd11.out (KeepT.ofBelow hb12) (by simp))
          clear hb12 HAs HB11 HF11 HD11 HRd11
          go_wp2_with fail
          go_loopw [22] (fun v22 wr => ∃ i : Nat, i ≤ T1 ∧ v22 = .int .i64 i ∧ Below w12.heap.size w12 wr) (fun i _ => T1 - (intOf i).toNat)
          case atStart => exact ⟨0, Nat.zero_le _, rfl, Below.refl _ _⟩
          case round =>
            obtain ⟨i, hi, rfl, hbel⟩ := hrel
            have Hbel := Lib.hid hbel
            clear hbel
            by_cases hlt : i < T1
            · have hlt' : (i : Int) < T1 := by omega
              have hw9 : IntKind.i64.wrap ((i : Int) + 1) = (i : Int) + 1 := IntWalk.i64_in _ (by have := HTl.out; have := HT1.out; have := Hl.out; have := Hz.out; omega)
              have hbr := HB12.out.trans (Hbel.out.mono HB12.out.size)
              have s5 := (block_cell' ((Hbel.out.block _ (lt_of_block HD12.out)).trans HD12.out) 5).1
              have s5 := s5.trans (show _ = some (.slice rvo T1 rvc) from rfl)
              obtain ⟨rb, ro, rfl, c0, c1, c2⟩ := rd_cells (row_keepT (T := []) (B := 0) (mp := false) HRd12.out (KeepT.ofBelow Hbel.out) (by simp)) i hlt
              have Hlt := Lib.hid hlt
              have Hbr := Lib.hid hbr
              clear hlt hi hbr
              by_cases hi0 : i = 0
              · have q0 : decide (0 < i) = false := by simp; omega
                have q1 : ¬ ((0 : Int) < (i : Int)) := by omega
                have hrd : rdA l lev i = (0, 0, 2) := by unfold rdA; rw [if_pos hi0]
                rw [hrd] at c0 c1 c2
                simp only at c0 c1 c2
                clear hi0 hrd
                go_upto_region 23 with (fail)
                refine gen_world (S := fun u => Below wr.heap.size wr u ∧ u.heap[wr.heap.size]? = some (.cells #[.int .i64 0, .int .i64 0, .int .i64 2] 51 (0, 0))) (one_new wr _) (fun u hu => ?_)
                obtain ⟨hbu, hz⟩ := hu
                obtain ⟨d0, d1, d2, -⟩ := three_box hz
                have t5 := cell_later hbu s5
                have e0 := cell_later hbu c0
                have e1 := cell_later hbu c1
                have e2 := cell_later hbu c2
                have HBu := Lib.hid (Hbel.out.trans (hbu.mono Hbel.out.size))
                clear hbu hz s5 c0 c1 c2
                go_region
                all_goals go_wp2_with fail
                all_goals go_roundw
                case rel => exact ⟨i + 1, Hlt.out, by go_num, HBu.out.drew⟩
                case measure => have := Hlt.out; simp [intOf]; omega
              · have q0 : decide (0 < i) = true := by simp; omega
                have q1 : (0 : Int) < (i : Int) := by omega
                have hrd : rdA l lev i = ((atA l (i - 1)).en, lev, 3) := by unfold rdA; rw [if_neg hi0]
                obtain ⟨j, hj⟩ : ∃ j, j = i - 1 := ⟨_, rfl⟩
                rw [hrd, ← hj] at c0 c1 c2
                simp only at c0 c1 c2
                have hw8 : IntKind.i64.wrap ((i : Int) - 1) = (j : Int) := (IntWalk.i64_in _ (by have := HTl.out; have := HT1.out; have := Hl.out; have := Hz.out; have := Hlt.out; omega)).trans (by omega)
                have hjT : (j : Int) < (T : Int) := by have := HT1.out; have := Hlt.out; omega
                obtain ⟨nb, no, rfl, n0⟩ := nums_cell (row_keepT (T := []) (B := 0) (mp := false) HF12.out (KeepT.ofBelow Hbel.out) (by simp)) j (by have := HT1.out; have := Hlt.out; omega)
                clear hi0 hrd hj
                go_upto_region 22 with (fail)
                refine gen_world (S := fun u => Below wr.heap.size wr u ∧ u.heap[wr.heap.size]? = some (.cells #[.int .i64 0, .int .i64 0, .int .i64 2] 51 (0, 0))) (one_new wr _) (fun u hu => ?_)
                obtain ⟨hbu, hz⟩ := hu
                have HM := Lib.hid (fun (wq : World) (hb : Below w.heap.size w wq) => at_lit _ l j wq (HA.out.later hb))
                have t5 := cell_later hbu s5
                have e0 := cell_later hbu c0
                have e1 := cell_later hbu c1
                have e2 := cell_later hbu c2
                have m0 := cell_later hbu n0
                have hlr := World.block_lt_of_cell? _ _ c0
                have hls := World.block_lt_of_cell? _ _ s5
                simp only at hlr hls
                have HBu := Lib.hid (Hbel.out.trans (hbu.mono Hbel.out.size))
                have HBw := Lib.hid (Hbr.out.trans (hbu.mono Hbr.out.size))
                have HZ := Lib.hid hz
                have HZn := Lib.hid (show w12.heap.size ≤ wr.heap.size from Hbel.out.size)
                obtain ⟨Z, hZ⟩ : ∃ Z, Z = wr.heap.size := ⟨_, rfl⟩
                rw [← hZ] at HZ HZn hlr hls ⊢
                have Hls := Lib.hid hls
                have Hlr := Lib.hid hlr
                clear hbu hz s5 c0 c1 c2 n0 hls hlr hZ
                have q43 := an_field0
                have q45 := fo_field1
                go_wp2_with fail
                refine (HM.out u HBw.out).mono ?_
                rintro e w13 ⟨xo, xc, rfl, -, hb13⟩
                have HB13 := Lib.hid (HBu.out.trans (hb13.mono HBu.out.size))
                have hz3 := (hb13.block _ (lt_of_block HZ.out)).trans HZ.out
                obtain ⟨d0, d1, d2, f0, f1, f2⟩ := three_box hz3
                have HZ3 := Lib.hid hz3
                have T5 := Lib.hid (cell_later hb13 t5)
                have E0 := Lib.hid (cell_later hb13 e0)
                have E1 := Lib.hid (cell_later hb13 e1)
                have E2 := Lib.hid (cell_later hb13 e2)
                clear hb13 hz3 t5 e0 e1 e2 m0 HM
                go_upto_region 23 with (fail)
                obtain ⟨qq, hqq⟩ := set3 HZ3.out (.int .i64 (atA l j).en) (.int .i64 lev) (.int .i64 3)
                refine gen_world (S := fun u => Keeps (fun k => k = Z) w13 u ∧ u.heap[Z]? = some (.cells #[.int .i64 (atA l j).en, .int .i64 lev, .int .i64 3] 51 (0, 0))) ⟨hqq, qq⟩ (fun u14 hu => ?_)
                obtain ⟨hk14, hz14⟩ := hu
                clear d0 d1 d2 f0 f1 f2 qq hqq
                obtain ⟨d0, d1, d2, -⟩ := three_box hz14
                have hnr : rb ≠ Z := by have := Hlr.out; omega
                have hns : Sb ≠ Z := by have := Hls.out; omega
                have t5 := hk14.cell T5.out hns
                have e0 := hk14.cell E0.out hnr
                have e1 := hk14.cell E1.out hnr
                have e2 := hk14.cell E2.out hnr
                have HB14 := Lib.hid (HB13.out.trans (Keeps.below hk14 HB13.out.size (fun k e => by subst e; exact HZn.out)))
                clear hk14 hz14 hnr hns
                go_region
                all_goals go_wp2_with fail
                all_goals go_roundw
                case rel => exact ⟨i + 1, Hlt.out, by go_num, HB14.out.drew⟩
                case measure => have := Hlt.out; simp [intOf]; omega
            · have hlt' : ¬ (i : Int) < T1 := by omega
              clear hlt hi
              go_wp2_with fail
              refine (awake_any wr).mono ?_
              rintro e w13 ⟨rfl, hb13⟩
              have HB13 := Lib.hid (HB12.out.trans ((Hbel.out.mono HB12.out.size).trans (hb13.mono (Nat.le_trans HB12.out.size Hbel.out.size))))
              clear hb13
              go_wp2
              go_ret
              exact ⟨rfl, HB13.out⟩
  · have hg : decide (200 < n) = true := by simpa using h200
    have hg2 : 200 < n := by omega
    clear h200
    go_wp2_with fail
    refine (awake_any w2).mono ?_
    rintro e w3 ⟨rfl, hb3⟩
    have HB3 := Lib.hid (HB2.out.trans (hb3.mono HB2.out.size))
    clear hb3
    go_wp2
    go_ret
    exact ⟨rfl, HB3.out⟩
end Go.Proofs.Ytebgleehmgmfbaa
