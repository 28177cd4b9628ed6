/-
  Chapter 26: the walk of GrowBack.
-/
import Derived.Test.YtebgleehmgmfbaaDoeW
namespace Go.Proofs.Ytebgleehmgmfbaa
open Go.RowKit Go.Lib

/-- what is told of a growth, live or not; how often was read. -/
def eiR (F : Live) (p : Pr) (l : List An) (T : Nat) : GrR × Nat := if p ∈ F.map (·.1) then (⟨false, 0, 0, [], 0, 8⟩, 0) else (grR l T, T + 1)
theorem grow_either {base s m : Nat} {sv : Value} {F : Live} {p : Pr} {sb : Nat} {lev : Int} {av : Value} {l : List An} {T : Nat} (w : World)
    (hs : StIs base w s m sv F) (hw : W64 p) (hF : F.length < 100000) (hb : w.heap[sb]? = some (.cells #[.pointer (some ⟨s, 0, none⟩), .int .i64 p.1, .int .i64 p.2, .int .i64 lev, av, .slice none 0 0, .slice none 0 0, .bool true] 35 (0, 0)))
    (hbs : base ≤ sb) (ha : @AnsS noWatch base w av l) (hl : l.length < 90000) (ht : ∀ a ∈ l, a.tree.length ≤ 1000000) (hT : Stops l T) :
    Calls Try.prog 10 #[.pointer (some ⟨s, 0, none⟩), .int .i64 p.1, .int .i64 p.2, .int .i64 lev, .func (.func 11) #[.pointer (some ⟨sb, 0, none⟩)] #[]] w fun e w' => ∃ vo vc ro rc rl sv',
      e = .returned (.tuple #[.agg #[.bool (eiR F p l T).1.is, .int .i64 (eiR F p l T).1.en, .int .i64 (eiR F p l T).1.far, .slice vo (eiR F p l T).1.tree.length vc], .int .i64 (eiR F p l T).1.n, .int .i64 (eiR F p l T).1.err]) ∧ StIs base w' s m sv' F ∧
      w'.heap[sb]? = some (.cells #[.pointer (some ⟨s, 0, none⟩), .int .i64 p.1, .int .i64 p.2, .int .i64 lev, av, .slice ro (eiR F p l T).2 rc, rl, .bool true] 35 (0, 0)) ∧ TwIn w' (.slice vo (eiR F p l T).1.tree.length vc) (eiR F p l T).1.tree ∧ @KeepT noWatch base TT true w w' ∧ Oth sb w w' := by
  by_cases hp : p ∈ F.map (·.1)
  · have e1 : eiR F p l T = (⟨false, 0, 0, [], 0, 8⟩, 0) := if_pos hp
    obtain ⟨f, hf⟩ : ∃ f, (p, f) ∈ F := by
      obtain ⟨x, hx, he⟩ := List.mem_map.1 hp
      exact ⟨x.2, by rw [← he]; exact hx⟩
    rw [e1]
    refine (grow_twice (lev := lev) (sb := sb) w hs hf).mono ?_
    rintro e w' ⟨rfl, hb'⟩
    exact ⟨none, 0, none, 0, .slice none 0 0, sv, rfl, hs.later hb', (hb'.block _ (lt_of_block hb)).trans hb, TwIn.nil _, KeepT.ofBelow hb', fun k cs t fr _ h _ _ _ => (hb'.block _ (lt_of_block h)).trans h⟩
  · have e1 : eiR F p l T = (grR l T, T + 1) := if_neg hp
    rw [e1]
    refine (grow_new (lev := lev) w hs (fun x hx e => hp (List.mem_map.2 ⟨x, hx, e⟩)) hw hF hb hbs ha hl ht hT).mono ?_
    rintro e w' ⟨v, rv, rl, gl, sv', rfl, h1, h2, h3, h4, h5, h6, h7⟩
    obtain ⟨vo, vc, rfl⟩ := h4.1.val
    obtain ⟨ro, rc, rfl⟩ := own_val h2.row
    have hk := h2.blk
    rw [rdsA_len] at hk
    exact ⟨vo, vc, ro, rc, rl, sv', rfl, h1, hk, h4, h6, h7⟩

set_option maxRecDepth 100000 in
set_option maxHeartbeats 4000000 in
theorem growBack_main (pv av : Value) {L : List Pr} {p : Pr} {lev : Int} {l : List An} (w : World) (hp : PrsAt w pv L) (hpw : ∀ p ∈ L, W64 p) (hw : W64 p) (ha : AnsAt w av l) (hzm : l.length ≤ 140737488355328) (hqm : L.length ≤ 140737488355328) (hbt : ∀ k, (atA l k).tree.length ≤ 140737488355328) :
    Calls Try.prog 6 #[pv, .agg #[.int .i64 p.1, .int .i64 p.2], .int .i64 lev, av] w fun e w' => e = .returned (.bool true) ∧ Below w.heap.size w w' := by
  have hTs := stops_some l
  obtain ⟨T, hTl, hT⟩ := hTs
  have HT := Lib.hid hT
  clear hT hTl
  have HP := Lib.hid (fun (wq : World) (hb : Below w.heap.size w wq) => hp.later hb)
  have HPw := Lib.hid hpw
  have HW := Lib.hid hw
  have HA := Lib.hid ha
  have HZ := Lib.hid (fun (wq : World) (hb : Below w.heap.size w wq) => size_any av pv wq (ha.later hb) (hp.later hb) hzm hqm hbt)
  obtain ⟨aao, acap, rfl⟩ := ha.val
  obtain ⟨pao, pcap, rfl⟩ := hp.val
  obtain ⟨z, hz⟩ : ∃ z, z = l.length := ⟨_, rfl⟩
  have Hz := Lib.hid hz
  rw [← hz] at HA HZ ⊢
  obtain ⟨Ln, hLn⟩ : ∃ Ln, Ln = L.length := ⟨_, rfl⟩
  have HLn := Lib.hid hLn
  rw [← hLn] at HP HZ ⊢
  clear hp hpw hw ha hzm hqm hbt hz hLn
  go_enter Try.func6, Try.ntmps6
  go_upto_region 1 with (fail)
  obtain ⟨hb1, hx1⟩ := one_new w (.cells #[.int .i64 p.1, .int .i64 p.2] 24 (0, 0))
  refine gen_world (S := fun u => Below w.heap.size w u ∧ u.heap[w.heap.size]? = some (.cells #[.int .i64 p.1, .int .i64 p.2] 24 (0, 0))) ⟨hb1, hx1⟩ (fun u hu => ?_)
  obtain ⟨B, hB⟩ : ∃ B, B = w.heap.size := ⟨_, rfl⟩
  rw [← hB] at hu hx1 ⊢
  obtain ⟨hb, hx⟩ := hu
  rw [hB] at hb
  have Hb := Lib.hid hb
  have HX := Lib.hid hx
  have HB := Lib.hid hB
  clear hb1 hx1 hb hx hB
  go_wp2_with fail
  refine (awake_any u).mono ?_
  rintro e w1 ⟨rfl, hba⟩
  have HXa := Lib.hid ((hba.block _ (lt_of_block HX.out)).trans HX.out)
  have Hba := Lib.hid (Hb.out.trans (hba.mono Hb.out.size))
  clear hba HX Hb
  go_wp2_with fail
  refine (HZ.out w1 Hba.out).mono ?_
  rintro e w2 ⟨n, rfl, hn, hb2⟩
  have Hn := Lib.hid hn
  have HX2 := Lib.hid ((hb2.block _ (lt_of_block HXa.out)).trans HXa.out)
  have HB2 := Lib.hid (Hba.out.trans (hb2.mono Hba.out.size))
  clear hn hb2 HXa Hba HZ
  by_cases h200 : n ≤ 200
  · have hg : decide (200 < n) = false := by simpa using h200
    have hg2 : ¬ 200 < n := by omega
    obtain ⟨hl, hL, ht⟩ := Hn.out h200
    have Hl := Lib.hid hl
    have HL := Lib.hid hL
    have Ht := Lib.hid ht
    clear h200 hl hL ht
    go_wp2_with fail
    refine (begun_any _ w2 (HP.out w2 HB2.out) HPw.out (by have := HL.out; have := HLn.out; omega)).mono ?_
    rintro e w3 ⟨F, sv, v2, rfl, hst, hrow, hbg, hb3⟩
    obtain ⟨fo, fc, rfl⟩ := own_val hrow
    have HX3 := Lib.hid ((hb3.block _ (lt_of_block HX2.out)).trans HX2.out)
    have HB3 := Lib.hid (HB2.out.trans (hb3.mono HB2.out.size))
    have HSt := Lib.hid hst
    have HRow := Lib.hid hrow
    have HBg := Lib.hid hbg
    have HFl := Lib.hid (show F.length ≤ 200 from Nat.le_trans hbg.le (by have := HL.out; have := HLn.out; omega))
    have hqL : ¬ ((Ln : Int) < (F.length : Int)) := by have := hbg.le; have := HLn.out; omega
    obtain ⟨b2, hb2e⟩ : ∃ b2, b2 = w2.heap.size := ⟨_, rfl⟩
    rw [← hb2e] at HSt HRow ⊢
    have Hb2 := Lib.hid (show w.heap.size ≤ b2 by rw [hb2e]; exact HB2.out.size)
    have HBB := Lib.hid (show B < b2 by rw [hb2e]; exact lt_of_block HX2.out)
    clear hst hrow hbg hb3 hb2e HB2 HX2
    obtain ⟨q, hq⟩ : ∃ q, q = F.length := ⟨_, rfl⟩
    have Hq := Lib.hid hq
    rw [← hq] at HRow HFl hqL ⊢
    clear hq
    have hqL2 : decide (Ln < q) = false := by simp; omega
    have HAS := Lib.hid (show ∀ (wq : World) (svq : Value), StIs b2 wq (b2 + 1) b2 svq F → wq.ownsRow b2 24 2 (.slice fo q fc) q (pcs F) → Calls Try.prog 12 #[.pointer (some ⟨b2 + 1, 0, none⟩), .slice fo q fc] wq fun e w' => e = .returned (.bool true) ∧ Below wq.heap.size wq w' from fun wq svq h1 h2 => by
      have has := as_any (k := L.length) (.slice fo F.length fc) wq h1 HBg.out (prs_of (by rw [← Hq.out]; exact h2)) (by have := HFl.out; rw [Hq.out] at this; omega) (by have := HL.out; have := HLn.out; omega)
      rw [← Hq.out] at has
      exact has)
    go_wp2_with fail
    refine (HAS.out w3 _ HSt.out HRow.out).mono ?_
    rintro e w4 ⟨rfl, hb4⟩
    have HX4 := Lib.hid ((hb4.block _ (lt_of_block HX3.out)).trans HX3.out)
    have HB4 := Lib.hid (HB3.out.trans (hb4.mono HB3.out.size))
    have HS4 := Lib.hid (HSt.out.later hb4)
    have HR4 := Lib.hid (row_keepT (T := []) (B := 0) (mp := false) HRow.out (KeepT.ofBelow hb4) (by simp))
    obtain ⟨b0, b1⟩ := two_box HX4.out
    clear hb4 HX3 HB3 HSt HRow
    go_upto_region 9 with (fail)
    refine gen_world (S := fun u => Below w4.heap.size w4 u ∧ u.heap[w4.heap.size]? = some (.cells #[.pointer (some ⟨b2 + 1, 0, none⟩), .int .i64 p.1, .int .i64 p.2, .int .i64 lev, .slice aao z acap, .slice none 0 0, .slice none 0 0, .bool true] 35 (0, 0))) (one_new w4 _) (fun u5 hu => ?_)
    obtain ⟨hb5, hs5⟩ := hu
    have HX5 := Lib.hid ((hb5.block _ (lt_of_block HX4.out)).trans HX4.out)
    have HB5 := Lib.hid (HB4.out.trans (hb5.mono HB4.out.size))
    have HbA := Lib.hid (show b2 ≤ w4.heap.size from Nat.le_of_lt (Nat.lt_of_le_of_lt HS4.out.bs (lt_of_block HS4.out.blk)))
    have HS5 := Lib.hid (HS4.out.later hb5)
    have HR5 := Lib.hid (row_keepT (T := []) (B := 0) (mp := false) HR4.out (KeepT.ofBelow hb5) (by simp))
    obtain ⟨A, hA⟩ : ∃ A, A = w4.heap.size := ⟨_, rfl⟩
    rw [← hA] at hs5 HbA ⊢
    have HA5 := Lib.hid hs5
    clear b0 b1 hb5 hs5 hA HX4 HB4 HS4 HR4
    obtain ⟨b0, b1⟩ := two_box HX5.out
    go_upto_region 10 with (fail)
    refine gen_world (S := fun u => Below u5.heap.size u5 u ∧ u.heap[u5.heap.size]? = some (.cells #[.pointer (some ⟨b2 + 1, 0, none⟩), .int .i64 p.1, .int .i64 p.2, .int .i64 lev, .slice aao z acap, .slice none 0 0, .slice none 0 0, .bool true] 35 (0, 0))) (one_new u5 _) (fun u6 hu => ?_)
    obtain ⟨hb6, hs6⟩ := hu
    have HX6 := Lib.hid ((hb6.block _ (lt_of_block HX5.out)).trans HX5.out)
    have HB6 := Lib.hid (HB5.out.trans (hb6.mono HB5.out.size))
    have HS6 := Lib.hid (HS5.out.later hb6)
    have HR6 := Lib.hid (row_keepT (T := []) (B := 0) (mp := false) HR5.out (KeepT.ofBelow hb6) (by simp))
    have HA6 := Lib.hid ((hb6.block _ (lt_of_block HA5.out)).trans HA5.out)
    have HAC := Lib.hid (lt_of_block HA5.out)
    have HbC := Lib.hid (show b2 ≤ u5.heap.size from Nat.le_of_lt (Nat.lt_of_le_of_lt HS5.out.bs (lt_of_block HS5.out.blk)))
    obtain ⟨C, hC⟩ : ∃ C, C = u5.heap.size := ⟨_, rfl⟩
    rw [← hC] at hs6 HAC HbC ⊢
    have HC6 := Lib.hid hs6
    clear b0 b1 hb6 hs6 hC HX5 HB5 HS5 HR5 HA5
    obtain ⟨b0, b1⟩ := two_box HX6.out
    have HGr := Lib.hid (show ∀ (wq : World) (sb : Nat) (svq : Value), Below w.heap.size w wq → StIs b2 wq (b2 + 1) b2 svq F → wq.heap[sb]? = some (.cells #[.pointer (some ⟨b2 + 1, 0, none⟩), .int .i64 p.1, .int .i64 p.2, .int .i64 lev, .slice aao z acap, .slice none 0 0, .slice none 0 0, .bool true] 35 (0, 0)) → b2 ≤ sb → _ from fun wq sb svq hb h1 h2 h3 =>
      grow_either (lev := lev) (T := T) wq h1 HW.out (by have := HFl.out; rw [Hq.out] at this; omega) h2 h3 (fun w' hk => HA.out.later (hb.trans ((KeepT.below hk (Nat.le_trans h3 (Nat.le_of_lt (lt_of_block h2)))).mono Hb2.out))) (by have := Hl.out; have := Hz.out; omega) (fun a ha => by
        obtain ⟨i, hi, rfl⟩ := List.getElem_of_mem ha
        have := Ht.out i
        rw [atA_lt hi] at this
        omega) HT.out)
    obtain ⟨R, hR⟩ : ∃ R, R = eiR F p l T := ⟨_, rfl⟩
    rw [← hR] at HGr
    clear hR
    obtain ⟨R, c⟩ := R
    simp only at HGr
    go_wp2_with fail
    refine (HGr.out u6 A _ HB6.out HS6.out HA6.out HbA.out).mono ?_
    rintro e w7 ⟨vo, vc, ro, rc, rl, sv7, rfl, hs7, ha7, hv7, hk7, ho7⟩
    have hbu7 : b2 ≤ u6.heap.size := Nat.le_trans HbA.out (Nat.le_of_lt (lt_of_block HA6.out))
    have HB7 := Lib.hid (HB6.out.trans ((KeepT.below hk7 hbu7).mono Hb2.out))
    have HS7 := Lib.hid hs7
    have HR7 := Lib.hid (row_keepT HR6.out hk7 (by decide))
    have HA7 := Lib.hid ha7
    have HV7 := Lib.hid hv7
    have HC7 := Lib.hid (ho7 C _ _ _ (by have := HAC.out; omega) HC6.out (by decide) (by decide) (by decide))
    have HX7 := Lib.hid (hk7.cells HX6.out (by decide))
    clear hs7 ha7 hv7 hk7 ho7 hbu7 b0 b1 HB6 HS6 HR6 HA6 HC6 HX6
    go_upto_region 11 with (fail)
    refine gen_world (S := fun u => Below w7.heap.size w7 u ∧ u.heap[w7.heap.size]? = some (.cells #[.bool R.is, .int .i64 R.en, .int .i64 R.far, .slice vo R.tree.length vc] 38 (0, 0))) (one_new w7 _) (fun u8 hu => ?_)
    obtain ⟨hb8, hx8⟩ := hu
    have HB8 := Lib.hid (HB7.out.trans (hb8.mono HB7.out.size))
    have HS8 := Lib.hid (HS7.out.later hb8)
    have HR8 := Lib.hid (row_keepT (T := []) (B := 0) (mp := false) HR7.out (KeepT.ofBelow hb8) (by simp))
    have HA8 := Lib.hid ((hb8.block _ (lt_of_block HA7.out)).trans HA7.out)
    have HC8 := Lib.hid ((hb8.block _ (lt_of_block HC7.out)).trans HC7.out)
    have HX8 := Lib.hid ((hb8.block _ (lt_of_block HX7.out)).trans HX7.out)
    have HV8 := Lib.hid (HV7.out.later hb8)
    obtain ⟨X, hX⟩ : ∃ X, X = w7.heap.size := ⟨_, rfl⟩
    rw [← hX] at hx8 ⊢
    have HY8 := Lib.hid hx8
    clear hb8 hx8 hX HB7 HS7 HR7 HA7 HC7 HX7 HV7
    go_wp2_with fail
    refine (HAS.out u8 _ HS8.out HR8.out).mono ?_
    rintro e w9 ⟨rfl, hb9⟩
    have HB9 := Lib.hid (HB8.out.trans (hb9.mono HB8.out.size))
    have HS9 := Lib.hid (HS8.out.later hb9)
    have HR9 := Lib.hid (row_keepT (T := []) (B := 0) (mp := false) HR8.out (KeepT.ofBelow hb9) (by simp))
    have HA9 := Lib.hid ((hb9.block _ (lt_of_block HA8.out)).trans HA8.out)
    have HC9 := Lib.hid ((hb9.block _ (lt_of_block HC8.out)).trans HC8.out)
    have HY9 := Lib.hid ((hb9.block _ (lt_of_block HY8.out)).trans HY8.out)
    have HV9 := Lib.hid (HV8.out.later hb9)
    obtain ⟨b0, b1⟩ := two_box ((hb9.block _ (lt_of_block HX8.out)).trans HX8.out)
    clear hb9 HB8 HS8 HR8 HA8 HC8 HX8 HV8 HY8
    go_wp2_with fail
    refine (HGr.out w9 C _ HB9.out HS9.out HC9.out HbC.out).mono ?_
    rintro e w10 ⟨vo2, vc2, ro2, rc2, rl2, sv10, rfl, hs10, hc10, hv10, hk10, ho10⟩
    have hbu9 : b2 ≤ w9.heap.size := Nat.le_trans HbC.out (Nat.le_of_lt (lt_of_block HC9.out))
    have HB10 := Lib.hid (HB9.out.trans ((KeepT.below hk10 hbu9).mono Hb2.out))
    have HS10 := Lib.hid hs10
    have HR10 := Lib.hid (row_keepT HR9.out hk10 (by decide))
    have HC10 := Lib.hid hc10
    have HV10 := Lib.hid hv10
    have HU10 := Lib.hid (HV9.out.keepT hk10 (by decide))
    have HA10 := Lib.hid (ho10 A _ _ _ (by have := HAC.out; omega) HA9.out (by decide) (by decide) (by decide))
    have HY10 := Lib.hid (hk10.cells HY9.out (by decide))
    clear hs10 hc10 hv10 hk10 ho10 hbu9 b0 b1 HB9 HS9 HR9 HA9 HC9 HV9 HY9 HGr
    go_upto_region 14 with (fail)
    refine gen_world (S := fun u => Below w10.heap.size w10 u ∧ u.heap[w10.heap.size]? = some (.cells #[.bool R.is, .int .i64 R.en, .int .i64 R.far, .slice vo2 R.tree.length vc2] 38 (0, 0))) (one_new w10 _) (fun u hu => ?_)
    obtain ⟨hbv, hz⟩ := hu
    obtain ⟨Z, hZ⟩ : ∃ Z, Z = w10.heap.size := ⟨_, rfl⟩
    rw [← hZ] at hz ⊢
    have HBu := Lib.hid (HB10.out.trans (hbv.mono HB10.out.size))
    have A5 := Lib.hid (((block_cell' ((hbv.block _ (lt_of_block HA10.out)).trans HA10.out) 5).1).trans (show _ = some (.slice ro c rc) from rfl))
    have A7 := Lib.hid (((block_cell' ((hbv.block _ (lt_of_block HA10.out)).trans HA10.out) 7).1).trans (show _ = some (.bool true) from rfl))
    have B5 := Lib.hid (((block_cell' ((hbv.block _ (lt_of_block HC10.out)).trans HC10.out) 5).1).trans (show _ = some (.slice ro2 c rc2) from rfl))
    have B7 := Lib.hid (((block_cell' ((hbv.block _ (lt_of_block HC10.out)).trans HC10.out) 7).1).trans (show _ = some (.bool true) from rfl))
    obtain ⟨x0, x1, x2, x3, -⟩ := four_box ((hbv.block _ (lt_of_block HY10.out)).trans HY10.out)
    obtain ⟨y0, y1, y2, y3, -⟩ := four_box hz
    have X0 := Lib.hid x0
    have X1 := Lib.hid x1
    have X2 := Lib.hid x2
    have X3 := Lib.hid x3
    have Y0 := Lib.hid y0
    have Y1 := Lib.hid y1
    have Y2 := Lib.hid y2
    have Y3 := Lib.hid y3
    have HAs := Lib.hid (fun (wq : World) (hb : Below u.heap.size u wq) => HAS.out wq _ ((HS10.out.later hbv).later hb) (row_keepT (T := []) (B := 0) (mp := false) (row_keepT (T := []) (B := 0) (mp := false) HR10.out (KeepT.ofBelow hbv) (by simp)) (KeepT.ofBelow hb) (by simp)))
    have HSF := Lib.hid (fun (wq : World) (hb : Below u.heap.size u wq) => sameFound_any R.is R.en R.far (.slice vo R.tree.length vc) (.slice vo2 R.tree.length vc2) R.tree wq (((HU10.out.later hbv).later hb).1) (((HV10.out.later hbv).later hb).1))
    clear hbv hz hZ x0 x1 x2 x3 y0 y1 y2 y3
    refine wp_region_held_drew (S := fun wq => Below u.heap.size u wq) (by kernel_rfl) ((Below.refl _ _).drew) (fun hS => ?_)
    refine wpAnyH_take (i := 0) (oi := ⟨_, _, _, _, _, _⟩) (v := ?v1) rfl (by kernel_rfl) (by kernel_rfl) (by kernel_rfl) (fun _ _ _ h => h) ?y1 hS ?_
    case y1 => first | (refine Or.inr ⟨by rfl, ?_⟩; with_reducible rfl) | (refine Or.inl ⟨by rfl, ?_⟩; intro wS hSw; have a5S := cell_later hSw A5.out; have a7S := cell_later hSw A7.out; have b5S := cell_later hSw B5.out; have b7S := cell_later hSw B7.out; have x0S := cell_later hSw X0.out; have x1S := cell_later hSw X1.out; have x2S := cell_later hSw X2.out; have x3S := cell_later hSw X3.out; have y0S := cell_later hSw Y0.out; have y1S := cell_later hSw Y1.out; have y2S := cell_later hSw Y2.out; have y3S := cell_later hSw Y3.out; go_simp; try with_reducible rfl)
    simp only [Act.put, List.setIfInBounds_toArray, List.set_cons_zero, List.set_cons_succ]
    refine wpAnyH_take (i := 1) (oi := ⟨_, _, _, _, _, _⟩) (v := ?v2) rfl (by kernel_rfl) (by kernel_rfl) (by kernel_rfl) (fun _ _ _ h => h) ?y2 hS ?_
    case y2 => first | (refine Or.inr ⟨by rfl, ?_⟩; with_reducible rfl) | (refine Or.inl ⟨by rfl, ?_⟩; intro wS hSw; have a5S := cell_later hSw A5.out; have a7S := cell_later hSw A7.out; have b5S := cell_later hSw B5.out; have b7S := cell_later hSw B7.out; have x0S := cell_later hSw X0.out; have x1S := cell_later hSw X1.out; have x2S := cell_later hSw X2.out; have x3S := cell_later hSw X3.out; have y0S := cell_later hSw Y0.out; have y1S := cell_later hSw Y1.out; have y2S := cell_later hSw Y2.out; have y3S := cell_later hSw Y3.out; go_simp; try with_reducible rfl)
    simp only [Act.put, List.setIfInBounds_toArray, List.set_cons_zero, List.set_cons_succ]
    refine wpAnyH_ready (rs := [2]) (by kernel_rfl) (by simp) ?_
    refine AllReadyH.cons (o := ⟨_, _, _, _, _, _⟩) rfl (fun K hK => ?_) AllReadyH.nil
    go_simp
    refine (HAs.out _ hS).mono ?_
    rintro e wx ⟨rfl, hbx⟩
    have hS : Below u.heap.size u wx := hS.trans (hbx.mono hS.size)
    go_wp2_with fail
    refine hK.out _ _ hS (fun _ => ?_)
    clear hK K
    try simp only [Act.put, List.setIfInBounds_toArray, List.set_cons_zero, List.set_cons_succ]
    refine wpAnyH_take (i := 3) (oi := ⟨_, _, _, _, _, _⟩) (v := ?v3) rfl (by kernel_rfl) (by kernel_rfl) (by kernel_rfl) (fun _ _ _ h => h) ?y3 hS ?_
    case y3 => first | (refine Or.inr ⟨by rfl, ?_⟩; with_reducible rfl) | (refine Or.inl ⟨by rfl, ?_⟩; intro wS hSw; have a5S := cell_later hSw A5.out; have a7S := cell_later hSw A7.out; have b5S := cell_later hSw B5.out; have b7S := cell_later hSw B7.out; have x0S := cell_later hSw X0.out; have x1S := cell_later hSw X1.out; have x2S := cell_later hSw X2.out; have x3S := cell_later hSw X3.out; have y0S := cell_later hSw Y0.out; have y1S := cell_later hSw Y1.out; have y2S := cell_later hSw Y2.out; have y3S := cell_later hSw Y3.out; go_simp; try with_reducible rfl)
    simp only [Act.put, List.setIfInBounds_toArray, List.set_cons_zero, List.set_cons_succ]
    refine wpAnyH_take (i := 4) (oi := ⟨_, _, _, _, _, _⟩) (v := ?v4) rfl (by kernel_rfl) (by kernel_rfl) (by kernel_rfl) (fun _ _ _ h => h) ?y4 hS ?_
    case y4 => first | (refine Or.inr ⟨by rfl, ?_⟩; with_reducible rfl) | (refine Or.inl ⟨by rfl, ?_⟩; intro wS hSw; have a5S := cell_later hSw A5.out; have a7S := cell_later hSw A7.out; have b5S := cell_later hSw B5.out; have b7S := cell_later hSw B7.out; have x0S := cell_later hSw X0.out; have x1S := cell_later hSw X1.out; have x2S := cell_later hSw X2.out; have x3S := cell_later hSw X3.out; have y0S := cell_later hSw Y0.out; have y1S := cell_later hSw Y1.out; have y2S := cell_later hSw Y2.out; have y3S := cell_later hSw Y3.out; go_simp; try with_reducible rfl)
    simp only [Act.put, List.setIfInBounds_toArray, List.set_cons_zero, List.set_cons_succ]
    refine wpAnyH_take (i := 5) (oi := ⟨_, _, _, _, _, _⟩) (v := ?v5) rfl (by kernel_rfl) (by kernel_rfl) (by kernel_rfl) (fun _ _ _ h => h) ?y5 hS ?_
    case y5 => first | (refine Or.inr ⟨by rfl, ?_⟩; with_reducible rfl) | (refine Or.inl ⟨by rfl, ?_⟩; intro wS hSw; have a5S := cell_later hSw A5.out; have a7S := cell_later hSw A7.out; have b5S := cell_later hSw B5.out; have b7S := cell_later hSw B7.out; have x0S := cell_later hSw X0.out; have x1S := cell_later hSw X1.out; have x2S := cell_later hSw X2.out; have x3S := cell_later hSw X3.out; have y0S := cell_later hSw Y0.out; have y1S := cell_later hSw Y1.out; have y2S := cell_later hSw Y2.out; have y3S := cell_later hSw Y3.out; go_simp; try with_reducible rfl)
    simp only [Act.put, List.setIfInBounds_toArray, List.set_cons_zero, List.set_cons_succ]
    refine wpAnyH_take (i := 6) (oi := ⟨_, _, _, _, _, _⟩) (v := ?v6) rfl (by kernel_rfl) (by kernel_rfl) (by kernel_rfl) (fun _ _ _ h => h) ?y6 hS ?_
    case y6 => first | (refine Or.inr ⟨by rfl, ?_⟩; with_reducible rfl) | (refine Or.inl ⟨by rfl, ?_⟩; intro wS hSw; have a5S := cell_later hSw A5.out; have a7S := cell_later hSw A7.out; have b5S := cell_later hSw B5.out; have b7S := cell_later hSw B7.out; have x0S := cell_later hSw X0.out; have x1S := cell_later hSw X1.out; have x2S := cell_later hSw X2.out; have x3S := cell_later hSw X3.out; have y0S := cell_later hSw Y0.out; have y1S := cell_later hSw Y1.out; have y2S := cell_later hSw Y2.out; have y3S := cell_later hSw Y3.out; go_simp; try with_reducible rfl)
    simp only [Act.put, List.setIfInBounds_toArray, List.set_cons_zero, List.set_cons_succ]
    refine wpAnyH_take (i := 7) (oi := ⟨_, _, _, _, _, _⟩) (v := ?v7) rfl (by kernel_rfl) (by kernel_rfl) (by kernel_rfl) (fun _ _ _ h => h) ?y7 hS ?_
    case y7 => first | (refine Or.inr ⟨by rfl, ?_⟩; with_reducible rfl) | (refine Or.inl ⟨by rfl, ?_⟩; intro wS hSw; have a5S := cell_later hSw A5.out; have a7S := cell_later hSw A7.out; have b5S := cell_later hSw B5.out; have b7S := cell_later hSw B7.out; have x0S := cell_later hSw X0.out; have x1S := cell_later hSw X1.out; have x2S := cell_later hSw X2.out; have x3S := cell_later hSw X3.out; have y0S := cell_later hSw Y0.out; have y1S := cell_later hSw Y1.out; have y2S := cell_later hSw Y2.out; have y3S := cell_later hSw Y3.out; go_simp; try with_reducible rfl)
    simp only [Act.put, List.setIfInBounds_toArray, List.set_cons_zero, List.set_cons_succ]
    refine wpAnyH_take (i := 8) (oi := ⟨_, _, _, _, _, _⟩) (v := ?v8) rfl (by kernel_rfl) (by kernel_rfl) (by kernel_rfl) (fun _ _ _ h => h) ?y8 hS ?_
    case y8 => first | (refine Or.inr ⟨by rfl, ?_⟩; with_reducible rfl) | (refine Or.inl ⟨by rfl, ?_⟩; intro wS hSw; have a5S := cell_later hSw A5.out; have a7S := cell_later hSw A7.out; have b5S := cell_later hSw B5.out; have b7S := cell_later hSw B7.out; have x0S := cell_later hSw X0.out; have x1S := cell_later hSw X1.out; have x2S := cell_later hSw X2.out; have x3S := cell_later hSw X3.out; have y0S := cell_later hSw Y0.out; have y1S := cell_later hSw Y1.out; have y2S := cell_later hSw Y2.out; have y3S := cell_later hSw Y3.out; go_simp; try with_reducible rfl)
    simp only [Act.put, List.setIfInBounds_toArray, List.set_cons_zero, List.set_cons_succ]
    refine wpAnyH_take (i := 9) (oi := ⟨_, _, _, _, _, _⟩) (v := ?v9) rfl (by kernel_rfl) (by kernel_rfl) (by kernel_rfl) (fun _ _ _ h => h) ?y9 hS ?_
    case y9 => first | (refine Or.inr ⟨by rfl, ?_⟩; with_reducible rfl) | (refine Or.inl ⟨by rfl, ?_⟩; intro wS hSw; have a5S := cell_later hSw A5.out; have a7S := cell_later hSw A7.out; have b5S := cell_later hSw B5.out; have b7S := cell_later hSw B7.out; have x0S := cell_later hSw X0.out; have x1S := cell_later hSw X1.out; have x2S := cell_later hSw X2.out; have x3S := cell_later hSw X3.out; have y0S := cell_later hSw Y0.out; have y1S := cell_later hSw Y1.out; have y2S := cell_later hSw Y2.out; have y3S := cell_later hSw Y3.out; go_simp; try with_reducible rfl)
    simp only [Act.put, List.setIfInBounds_toArray, List.set_cons_zero, List.set_cons_succ]
    refine wpAnyH_take (i := 10) (oi := ⟨_, _, _, _, _, _⟩) (v := ?v10) rfl (by kernel_rfl) (by kernel_rfl) (by kernel_rfl) (fun _ _ _ h => h) ?y10 hS ?_
    case y10 => first | (refine Or.inr ⟨by rfl, ?_⟩; with_reducible rfl) | (refine Or.inl ⟨by rfl, ?_⟩; intro wS hSw; have a5S := cell_later hSw A5.out; have a7S := cell_later hSw A7.out; have b5S := cell_later hSw B5.out; have b7S := cell_later hSw B7.out; have x0S := cell_later hSw X0.out; have x1S := cell_later hSw X1.out; have x2S := cell_later hSw X2.out; have x3S := cell_later hSw X3.out; have y0S := cell_later hSw Y0.out; have y1S := cell_later hSw Y1.out; have y2S := cell_later hSw Y2.out; have y3S := cell_later hSw Y3.out; go_simp; try with_reducible rfl)
    simp only [Act.put, List.setIfInBounds_toArray, List.set_cons_zero, List.set_cons_succ]
    refine wpAnyH_take (i := 11) (oi := ⟨_, _, _, _, _, _⟩) (v := ?v11) rfl (by kernel_rfl) (by kernel_rfl) (by kernel_rfl) (fun _ _ _ h => h) ?y11 hS ?_
    case y11 => first | (refine Or.inr ⟨by rfl, ?_⟩; with_reducible rfl) | (refine Or.inl ⟨by rfl, ?_⟩; intro wS hSw; have a5S := cell_later hSw A5.out; have a7S := cell_later hSw A7.out; have b5S := cell_later hSw B5.out; have b7S := cell_later hSw B7.out; have x0S := cell_later hSw X0.out; have x1S := cell_later hSw X1.out; have x2S := cell_later hSw X2.out; have x3S := cell_later hSw X3.out; have y0S := cell_later hSw Y0.out; have y1S := cell_later hSw Y1.out; have y2S := cell_later hSw Y2.out; have y3S := cell_later hSw Y3.out; go_simp; try with_reducible rfl)
    simp only [Act.put, List.setIfInBounds_toArray, List.set_cons_zero, List.set_cons_succ]
    refine wpAnyH_take (i := 12) (oi := ⟨_, _, _, _, _, _⟩) (v := ?v12) rfl (by kernel_rfl) (by kernel_rfl) (by kernel_rfl) (fun _ _ _ h => h) ?y12 hS ?_
    case y12 => first | (refine Or.inr ⟨by rfl, ?_⟩; with_reducible rfl) | (refine Or.inl ⟨by rfl, ?_⟩; intro wS hSw; have a5S := cell_later hSw A5.out; have a7S := cell_later hSw A7.out; have b5S := cell_later hSw B5.out; have b7S := cell_later hSw B7.out; have x0S := cell_later hSw X0.out; have x1S := cell_later hSw X1.out; have x2S := cell_later hSw X2.out; have x3S := cell_later hSw X3.out; have y0S := cell_later hSw Y0.out; have y1S := cell_later hSw Y1.out; have y2S := cell_later hSw Y2.out; have y3S := cell_later hSw Y3.out; go_simp; try with_reducible rfl)
    simp only [Act.put, List.setIfInBounds_toArray, List.set_cons_zero, List.set_cons_succ]
    refine wpAnyH_take (i := 13) (oi := ⟨_, _, _, _, _, _⟩) (v := ?v13) rfl (by kernel_rfl) (by kernel_rfl) (by kernel_rfl) (fun _ _ _ h => h) ?y13 hS ?_
    case y13 => first | (refine Or.inr ⟨by rfl, ?_⟩; with_reducible rfl) | (refine Or.inl ⟨by rfl, ?_⟩; intro wS hSw; have a5S := cell_later hSw A5.out; have a7S := cell_later hSw A7.out; have b5S := cell_later hSw B5.out; have b7S := cell_later hSw B7.out; have x0S := cell_later hSw X0.out; have x1S := cell_later hSw X1.out; have x2S := cell_later hSw X2.out; have x3S := cell_later hSw X3.out; have y0S := cell_later hSw Y0.out; have y1S := cell_later hSw Y1.out; have y2S := cell_later hSw Y2.out; have y3S := cell_later hSw Y3.out; go_simp; try with_reducible rfl)
    simp only [Act.put, List.setIfInBounds_toArray, List.set_cons_zero, List.set_cons_succ]
    refine wpAnyH_take (i := 14) (oi := ⟨_, _, _, _, _, _⟩) (v := ?v14) rfl (by kernel_rfl) (by kernel_rfl) (by kernel_rfl) (fun _ _ _ h => h) ?y14 hS ?_
    case y14 => first | (refine Or.inr ⟨by rfl, ?_⟩; with_reducible rfl) | (refine Or.inl ⟨by rfl, ?_⟩; intro wS hSw; have a5S := cell_later hSw A5.out; have a7S := cell_later hSw A7.out; have b5S := cell_later hSw B5.out; have b7S := cell_later hSw B7.out; have x0S := cell_later hSw X0.out; have x1S := cell_later hSw X1.out; have x2S := cell_later hSw X2.out; have x3S := cell_later hSw X3.out; have y0S := cell_later hSw Y0.out; have y1S := cell_later hSw Y1.out; have y2S := cell_later hSw Y2.out; have y3S := cell_later hSw Y3.out; go_simp; try with_reducible rfl)
    simp only [Act.put, List.setIfInBounds_toArray, List.set_cons_zero, List.set_cons_succ]
    refine wpAnyH_take (i := 15) (oi := ⟨_, _, _, _, _, _⟩) (v := ?v15) rfl (by kernel_rfl) (by kernel_rfl) (by kernel_rfl) (fun _ _ _ h => h) ?y15 hS ?_
    case y15 => first | (refine Or.inr ⟨by rfl, ?_⟩; with_reducible rfl) | (refine Or.inl ⟨by rfl, ?_⟩; intro wS hSw; have a5S := cell_later hSw A5.out; have a7S := cell_later hSw A7.out; have b5S := cell_later hSw B5.out; have b7S := cell_later hSw B7.out; have x0S := cell_later hSw X0.out; have x1S := cell_later hSw X1.out; have x2S := cell_later hSw X2.out; have x3S := cell_later hSw X3.out; have y0S := cell_later hSw Y0.out; have y1S := cell_later hSw Y1.out; have y2S := cell_later hSw Y2.out; have y3S := cell_later hSw Y3.out; go_simp; try with_reducible rfl)
    simp only [Act.put, List.setIfInBounds_toArray, List.set_cons_zero, List.set_cons_succ]
    refine wpAnyH_ready (rs := [16]) (by kernel_rfl) (by simp) ?_
    refine AllReadyH.cons (o := ⟨_, _, _, _, _, _⟩) rfl (fun K hK => ?_) AllReadyH.nil
    go_simp
    refine (HSF.out _ hS).mono ?_
    rintro e wx ⟨rfl, hbx⟩
    have hS : Below u.heap.size u wx := hS.trans (hbx.mono hS.size)
    go_wp2_with fail
    refine hK.out _ _ hS (fun _ => ?_)
    clear hK K
    try simp only [Act.put, List.setIfInBounds_toArray, List.set_cons_zero, List.set_cons_succ]
    refine wpAnyH_take (i := 17) (oi := ⟨_, _, _, _, _, _⟩) (v := ?v16) rfl (by kernel_rfl) (by kernel_rfl) (by kernel_rfl) (fun _ _ _ h => h) ?y16 hS ?_
    case y16 => first | (refine Or.inr ⟨by rfl, ?_⟩; with_reducible rfl) | (refine Or.inl ⟨by rfl, ?_⟩; intro wS hSw; have a5S := cell_later hSw A5.out; have a7S := cell_later hSw A7.out; have b5S := cell_later hSw B5.out; have b7S := cell_later hSw B7.out; have x0S := cell_later hSw X0.out; have x1S := cell_later hSw X1.out; have x2S := cell_later hSw X2.out; have x3S := cell_later hSw X3.out; have y0S := cell_later hSw Y0.out; have y1S := cell_later hSw Y1.out; have y2S := cell_later hSw Y2.out; have y3S := cell_later hSw Y3.out; go_simp; try with_reducible rfl)
    simp only [Act.put, List.setIfInBounds_toArray, List.set_cons_zero, List.set_cons_succ]
    refine wpAnyH_take (i := 18) (oi := ⟨_, _, _, _, _, _⟩) (v := ?v17) rfl (by kernel_rfl) (by kernel_rfl) (by kernel_rfl) (fun _ _ _ h => h) ?y17 hS ?_
    case y17 => first | (refine Or.inr ⟨by rfl, ?_⟩; with_reducible rfl) | (refine Or.inl ⟨by rfl, ?_⟩; intro wS hSw; have a5S := cell_later hSw A5.out; have a7S := cell_later hSw A7.out; have b5S := cell_later hSw B5.out; have b7S := cell_later hSw B7.out; have x0S := cell_later hSw X0.out; have x1S := cell_later hSw X1.out; have x2S := cell_later hSw X2.out; have x3S := cell_later hSw X3.out; have y0S := cell_later hSw Y0.out; have y1S := cell_later hSw Y1.out; have y2S := cell_later hSw Y2.out; have y3S := cell_later hSw Y3.out; go_simp; try with_reducible rfl)
    simp only [Act.put, List.setIfInBounds_toArray, List.set_cons_zero, List.set_cons_succ]
    refine wpAnyH_take (i := 19) (oi := ⟨_, _, _, _, _, _⟩) (v := ?v18) rfl (by kernel_rfl) (by kernel_rfl) (by kernel_rfl) (fun _ _ _ h => h) ?y18 hS ?_
    case y18 => first | (refine Or.inr ⟨by rfl, ?_⟩; with_reducible rfl) | (refine Or.inl ⟨by rfl, ?_⟩; intro wS hSw; have a5S := cell_later hSw A5.out; have a7S := cell_later hSw A7.out; have b5S := cell_later hSw B5.out; have b7S := cell_later hSw B7.out; have x0S := cell_later hSw X0.out; have x1S := cell_later hSw X1.out; have x2S := cell_later hSw X2.out; have x3S := cell_later hSw X3.out; have y0S := cell_later hSw Y0.out; have y1S := cell_later hSw Y1.out; have y2S := cell_later hSw Y2.out; have y3S := cell_later hSw Y3.out; go_simp; try with_reducible rfl)
    simp only [Act.put, List.setIfInBounds_toArray, List.set_cons_zero, List.set_cons_succ]
    refine wpAnyH_take (i := 20) (oi := ⟨_, _, _, _, _, _⟩) (v := ?v19) rfl (by kernel_rfl) (by kernel_rfl) (by kernel_rfl) (fun _ _ _ h => h) ?y19 hS ?_
    case y19 => first | (refine Or.inr ⟨by rfl, ?_⟩; with_reducible rfl) | (refine Or.inl ⟨by rfl, ?_⟩; intro wS hSw; have a5S := cell_later hSw A5.out; have a7S := cell_later hSw A7.out; have b5S := cell_later hSw B5.out; have b7S := cell_later hSw B7.out; have x0S := cell_later hSw X0.out; have x1S := cell_later hSw X1.out; have x2S := cell_later hSw X2.out; have x3S := cell_later hSw X3.out; have y0S := cell_later hSw Y0.out; have y1S := cell_later hSw Y1.out; have y2S := cell_later hSw Y2.out; have y3S := cell_later hSw Y3.out; go_simp; try with_reducible rfl)
    simp only [Act.put, List.setIfInBounds_toArray, List.set_cons_zero, List.set_cons_succ]
    refine wpAnyH_take (i := 21) (oi := ⟨_, _, _, _, _, _⟩) (v := ?v20) rfl (by kernel_rfl) (by kernel_rfl) (by kernel_rfl) (fun _ _ _ h => h) ?y20 hS ?_
    case y20 => first | (refine Or.inr ⟨by rfl, ?_⟩; with_reducible rfl) | (refine Or.inl ⟨by rfl, ?_⟩; intro wS hSw; have a5S := cell_later hSw A5.out; have a7S := cell_later hSw A7.out; have b5S := cell_later hSw B5.out; have b7S := cell_later hSw B7.out; have x0S := cell_later hSw X0.out; have x1S := cell_later hSw X1.out; have x2S := cell_later hSw X2.out; have x3S := cell_later hSw X3.out; have y0S := cell_later hSw Y0.out; have y1S := cell_later hSw Y1.out; have y2S := cell_later hSw Y2.out; have y3S := cell_later hSw Y3.out; go_simp; try with_reducible rfl)
    simp only [Act.put, List.setIfInBounds_toArray, List.set_cons_zero, List.set_cons_succ]
    refine wpAnyH_take (i := 22) (oi := ⟨_, _, _, _, _, _⟩) (v := ?v21) rfl (by kernel_rfl) (by kernel_rfl) (by kernel_rfl) (fun _ _ _ h => h) ?y21 hS ?_
    case y21 => first | (refine Or.inr ⟨by rfl, ?_⟩; with_reducible rfl) | (refine Or.inl ⟨by rfl, ?_⟩; intro wS hSw; have a5S := cell_later hSw A5.out; have a7S := cell_later hSw A7.out; have b5S := cell_later hSw B5.out; have b7S := cell_later hSw B7.out; have x0S := cell_later hSw X0.out; have x1S := cell_later hSw X1.out; have x2S := cell_later hSw X2.out; have x3S := cell_later hSw X3.out; have y0S := cell_later hSw Y0.out; have y1S := cell_later hSw Y1.out; have y2S := cell_later hSw Y2.out; have y3S := cell_later hSw Y3.out; go_simp; try with_reducible rfl)
    simp only [Act.put, List.setIfInBounds_toArray, List.set_cons_zero, List.set_cons_succ]
    refine wpAnyH_take (i := 23) (oi := ⟨_, _, _, _, _, _⟩) (v := ?v22) rfl (by kernel_rfl) (by kernel_rfl) (by kernel_rfl) (fun _ _ _ h => h) ?y22 hS ?_
    case y22 => first | (refine Or.inr ⟨by rfl, ?_⟩; with_reducible rfl) | (refine Or.inl ⟨by rfl, ?_⟩; intro wS hSw; have a5S := cell_later hSw A5.out; have a7S := cell_later hSw A7.out; have b5S := cell_later hSw B5.out; have b7S := cell_later hSw B7.out; have x0S := cell_later hSw X0.out; have x1S := cell_later hSw X1.out; have x2S := cell_later hSw X2.out; have x3S := cell_later hSw X3.out; have y0S := cell_later hSw Y0.out; have y1S := cell_later hSw Y1.out; have y2S := cell_later hSw Y2.out; have y3S := cell_later hSw Y3.out; go_simp; try with_reducible rfl)
    simp only [Act.put, List.setIfInBounds_toArray, List.set_cons_zero, List.set_cons_succ]
    refine wpAnyH_take (i := 24) (oi := ⟨_, _, _, _, _, _⟩) (v := ?v23) rfl (by kernel_rfl) (by kernel_rfl) (by kernel_rfl) (fun _ _ _ h => h) ?y23 hS ?_
    case y23 => first | (refine Or.inr ⟨by rfl, ?_⟩; with_reducible rfl) | (refine Or.inl ⟨by rfl, ?_⟩; intro wS hSw; have a5S := cell_later hSw A5.out; have a7S := cell_later hSw A7.out; have b5S := cell_later hSw B5.out; have b7S := cell_later hSw B7.out; have x0S := cell_later hSw X0.out; have x1S := cell_later hSw X1.out; have x2S := cell_later hSw X2.out; have x3S := cell_later hSw X3.out; have y0S := cell_later hSw Y0.out; have y1S := cell_later hSw Y1.out; have y2S := cell_later hSw Y2.out; have y3S := cell_later hSw Y3.out; go_simp; try with_reducible rfl)
    simp only [Act.put, List.setIfInBounds_toArray, List.set_cons_zero, List.set_cons_succ]
    refine wpAnyH_take (i := 25) (oi := ⟨_, _, _, _, _, _⟩) (v := ?v24) rfl (by kernel_rfl) (by kernel_rfl) (by kernel_rfl) (fun _ _ _ h => h) ?y24 hS ?_
    case y24 => first | (refine Or.inr ⟨by rfl, ?_⟩; with_reducible rfl) | (refine Or.inl ⟨by rfl, ?_⟩; intro wS hSw; have a5S := cell_later hSw A5.out; have a7S := cell_later hSw A7.out; have b5S := cell_later hSw B5.out; have b7S := cell_later hSw B7.out; have x0S := cell_later hSw X0.out; have x1S := cell_later hSw X1.out; have x2S := cell_later hSw X2.out; have x3S := cell_later hSw X3.out; have y0S := cell_later hSw Y0.out; have y1S := cell_later hSw Y1.out; have y2S := cell_later hSw Y2.out; have y3S := cell_later hSw Y3.out; go_simp; try with_reducible rfl)
    simp only [Act.put, List.setIfInBounds_toArray, List.set_cons_zero, List.set_cons_succ]
    refine wpAnyH_take (i := 26) (oi := ⟨_, _, _, _, _, _⟩) (v := ?v25) rfl (by kernel_rfl) (by kernel_rfl) (by kernel_rfl) (fun _ _ _ h => h) ?y25 hS ?_
    case y25 => first | (refine Or.inr ⟨by rfl, ?_⟩; with_reducible rfl) | (refine Or.inl ⟨by rfl, ?_⟩; intro wS hSw; have a5S := cell_later hSw A5.out; have a7S := cell_later hSw A7.out; have b5S := cell_later hSw B5.out; have b7S := cell_later hSw B7.out; have x0S := cell_later hSw X0.out; have x1S := cell_later hSw X1.out; have x2S := cell_later hSw X2.out; have x3S := cell_later hSw X3.out; have y0S := cell_later hSw Y0.out; have y1S := cell_later hSw Y1.out; have y2S := cell_later hSw Y2.out; have y3S := cell_later hSw Y3.out; go_simp; try with_reducible rfl)
    simp only [Act.put, List.setIfInBounds_toArray, List.set_cons_zero, List.set_cons_succ]
    refine wpAnyH_take (i := 27) (oi := ⟨_, _, _, _, _, _⟩) (v := ?v26) rfl (by kernel_rfl) (by kernel_rfl) (by kernel_rfl) (fun _ _ _ h => h) ?y26 hS ?_
    case y26 => first | (refine Or.inr ⟨by rfl, ?_⟩; with_reducible rfl) | (refine Or.inl ⟨by rfl, ?_⟩; intro wS hSw; have a5S := cell_later hSw A5.out; have a7S := cell_later hSw A7.out; have b5S := cell_later hSw B5.out; have b7S := cell_later hSw B7.out; have x0S := cell_later hSw X0.out; have x1S := cell_later hSw X1.out; have x2S := cell_later hSw X2.out; have x3S := cell_later hSw X3.out; have y0S := cell_later hSw Y0.out; have y1S := cell_later hSw Y1.out; have y2S := cell_later hSw Y2.out; have y3S := cell_later hSw Y3.out; go_simp; try with_reducible rfl)
    simp only [Act.put, List.setIfInBounds_toArray, List.set_cons_zero, List.set_cons_succ]
    refine wpAnyH_take (i := 28) (oi := ⟨_, _, _, _, _, _⟩) (v := ?v27) rfl (by kernel_rfl) (by kernel_rfl) (by kernel_rfl) (fun _ _ _ h => h) ?y27 hS ?_
    case y27 => first | (refine Or.inr ⟨by rfl, ?_⟩; with_reducible rfl) | (refine Or.inl ⟨by rfl, ?_⟩; intro wS hSw; have a5S := cell_later hSw A5.out; have a7S := cell_later hSw A7.out; have b5S := cell_later hSw B5.out; have b7S := cell_later hSw B7.out; have x0S := cell_later hSw X0.out; have x1S := cell_later hSw X1.out; have x2S := cell_later hSw X2.out; have x3S := cell_later hSw X3.out; have y0S := cell_later hSw Y0.out; have y1S := cell_later hSw Y1.out; have y2S := cell_later hSw Y2.out; have y3S := cell_later hSw Y3.out; go_simp; try with_reducible rfl)
    simp only [Act.put, List.setIfInBounds_toArray, List.set_cons_zero, List.set_cons_succ]
    refine wpAnyH_take (i := 29) (oi := ⟨_, _, _, _, _, _⟩) (v := ?v28) rfl (by kernel_rfl) (by kernel_rfl) (by kernel_rfl) (fun _ _ _ h => h) ?y28 hS ?_
    case y28 => first | (refine Or.inr ⟨by rfl, ?_⟩; with_reducible rfl) | (refine Or.inl ⟨by rfl, ?_⟩; intro wS hSw; have a5S := cell_later hSw A5.out; have a7S := cell_later hSw A7.out; have b5S := cell_later hSw B5.out; have b7S := cell_later hSw B7.out; have x0S := cell_later hSw X0.out; have x1S := cell_later hSw X1.out; have x2S := cell_later hSw X2.out; have x3S := cell_later hSw X3.out; have y0S := cell_later hSw Y0.out; have y1S := cell_later hSw Y1.out; have y2S := cell_later hSw Y2.out; have y3S := cell_later hSw Y3.out; go_simp; try with_reducible rfl)
    simp only [Act.put, List.setIfInBounds_toArray, List.set_cons_zero, List.set_cons_succ]
    refine wpAnyH_take (i := 30) (oi := ⟨_, _, _, _, _, _⟩) (v := ?v29) rfl (by kernel_rfl) (by kernel_rfl) (by kernel_rfl) (fun _ _ _ h => h) ?y29 hS ?_
    case y29 => first | (refine Or.inr ⟨by rfl, ?_⟩; with_reducible rfl) | (refine Or.inl ⟨by rfl, ?_⟩; intro wS hSw; have a5S := cell_later hSw A5.out; have a7S := cell_later hSw A7.out; have b5S := cell_later hSw B5.out; have b7S := cell_later hSw B7.out; have x0S := cell_later hSw X0.out; have x1S := cell_later hSw X1.out; have x2S := cell_later hSw X2.out; have x3S := cell_later hSw X3.out; have y0S := cell_later hSw Y0.out; have y1S := cell_later hSw Y1.out; have y2S := cell_later hSw Y2.out; have y3S := cell_later hSw Y3.out; go_simp; try with_reducible rfl)
    simp only [Act.put, List.setIfInBounds_toArray, List.set_cons_zero, List.set_cons_succ]
    refine wpAnyH_take (i := 31) (oi := ⟨_, _, _, _, _, _⟩) (v := ?v30) rfl (by kernel_rfl) (by kernel_rfl) (by kernel_rfl) (fun _ _ _ h => h) ?y30 hS ?_
    case y30 => first | (refine Or.inr ⟨by rfl, ?_⟩; with_reducible rfl) | (refine Or.inl ⟨by rfl, ?_⟩; intro wS hSw; have a5S := cell_later hSw A5.out; have a7S := cell_later hSw A7.out; have b5S := cell_later hSw B5.out; have b7S := cell_later hSw B7.out; have x0S := cell_later hSw X0.out; have x1S := cell_later hSw X1.out; have x2S := cell_later hSw X2.out; have x3S := cell_later hSw X3.out; have y0S := cell_later hSw Y0.out; have y1S := cell_later hSw Y1.out; have y2S := cell_later hSw Y2.out; have y3S := cell_later hSw Y3.out; go_simp; try with_reducible rfl)
    simp only [Act.put, List.setIfInBounds_toArray, List.set_cons_zero, List.set_cons_succ]
    refine wpAnyH_take (i := 32) (oi := ⟨_, _, _, _, _, _⟩) (v := ?v31) rfl (by kernel_rfl) (by kernel_rfl) (by kernel_rfl) (fun _ _ _ h => h) ?y31 hS ?_
    case y31 => first | (refine Or.inr ⟨by rfl, ?_⟩; with_reducible rfl) | (refine Or.inl ⟨by rfl, ?_⟩; intro wS hSw; have a5S := cell_later hSw A5.out; have a7S := cell_later hSw A7.out; have b5S := cell_later hSw B5.out; have b7S := cell_later hSw B7.out; have x0S := cell_later hSw X0.out; have x1S := cell_later hSw X1.out; have x2S := cell_later hSw X2.out; have x3S := cell_later hSw X3.out; have y0S := cell_later hSw Y0.out; have y1S := cell_later hSw Y1.out; have y2S := cell_later hSw Y2.out; have y3S := cell_later hSw Y3.out; go_simp; try with_reducible rfl)
    simp only [Act.put, List.setIfInBounds_toArray, List.set_cons_zero, List.set_cons_succ]
    refine wpAnyH_take (i := 33) (oi := ⟨_, _, _, _, _, _⟩) (v := ?v32) rfl (by kernel_rfl) (by kernel_rfl) (by kernel_rfl) (fun _ _ _ h => h) ?y32 hS ?_
    case y32 => first | (refine Or.inr ⟨by rfl, ?_⟩; with_reducible rfl) | (refine Or.inl ⟨by rfl, ?_⟩; intro wS hSw; have a5S := cell_later hSw A5.out; have a7S := cell_later hSw A7.out; have b5S := cell_later hSw B5.out; have b7S := cell_later hSw B7.out; have x0S := cell_later hSw X0.out; have x1S := cell_later hSw X1.out; have x2S := cell_later hSw X2.out; have x3S := cell_later hSw X3.out; have y0S := cell_later hSw Y0.out; have y1S := cell_later hSw Y1.out; have y2S := cell_later hSw Y2.out; have y3S := cell_later hSw Y3.out; go_simp; try with_reducible rfl)
    simp only [Act.put, List.setIfInBounds_toArray, List.set_cons_zero, List.set_cons_succ]
    refine wpAnyH_take (i := 34) (oi := ⟨_, _, _, _, _, _⟩) (v := ?v33) rfl (by kernel_rfl) (by kernel_rfl) (by kernel_rfl) (fun _ _ _ h => h) ?y33 hS ?_
    case y33 => first | (refine Or.inr ⟨by rfl, ?_⟩; with_reducible rfl) | (refine Or.inl ⟨by rfl, ?_⟩; intro wS hSw; have a5S := cell_later hSw A5.out; have a7S := cell_later hSw A7.out; have b5S := cell_later hSw B5.out; have b7S := cell_later hSw B7.out; have x0S := cell_later hSw X0.out; have x1S := cell_later hSw X1.out; have x2S := cell_later hSw X2.out; have x3S := cell_later hSw X3.out; have y0S := cell_later hSw Y0.out; have y1S := cell_later hSw Y1.out; have y2S := cell_later hSw Y2.out; have y3S := cell_later hSw Y3.out; go_simp; try with_reducible rfl)
    simp only [Act.put, List.setIfInBounds_toArray, List.set_cons_zero, List.set_cons_succ]
    refine wpAnyH_take (i := 35) (oi := ⟨_, _, _, _, _, _⟩) (v := ?v34) rfl (by kernel_rfl) (by kernel_rfl) (by kernel_rfl) (fun _ _ _ h => h) ?y34 hS ?_
    case y34 => first | (refine Or.inr ⟨by rfl, ?_⟩; with_reducible rfl) | (refine Or.inl ⟨by rfl, ?_⟩; intro wS hSw; have a5S := cell_later hSw A5.out; have a7S := cell_later hSw A7.out; have b5S := cell_later hSw B5.out; have b7S := cell_later hSw B7.out; have x0S := cell_later hSw X0.out; have x1S := cell_later hSw X1.out; have x2S := cell_later hSw X2.out; have x3S := cell_later hSw X3.out; have y0S := cell_later hSw Y0.out; have y1S := cell_later hSw Y1.out; have y2S := cell_later hSw Y2.out; have y3S := cell_later hSw Y3.out; go_simp; try with_reducible rfl)
    simp only [Act.put, List.setIfInBounds_toArray, List.set_cons_zero, List.set_cons_succ]
    refine wpAnyH_take (i := 36) (oi := ⟨_, _, _, _, _, _⟩) (v := ?v35) rfl (by kernel_rfl) (by kernel_rfl) (by kernel_rfl) (fun _ _ _ h => h) ?y35 hS ?_
    case y35 => first | (refine Or.inr ⟨by rfl, ?_⟩; with_reducible rfl) | (refine Or.inl ⟨by rfl, ?_⟩; intro wS hSw; have a5S := cell_later hSw A5.out; have a7S := cell_later hSw A7.out; have b5S := cell_later hSw B5.out; have b7S := cell_later hSw B7.out; have x0S := cell_later hSw X0.out; have x1S := cell_later hSw X1.out; have x2S := cell_later hSw X2.out; have x3S := cell_later hSw X3.out; have y0S := cell_later hSw Y0.out; have y1S := cell_later hSw Y1.out; have y2S := cell_later hSw Y2.out; have y3S := cell_later hSw Y3.out; go_simp; try with_reducible rfl)
    simp only [Act.put, List.setIfInBounds_toArray, List.set_cons_zero, List.set_cons_succ]
    refine wpAnyH_take (i := 37) (oi := ⟨_, _, _, _, _, _⟩) (v := ?v36) rfl (by kernel_rfl) (by kernel_rfl) (by kernel_rfl) (fun _ _ _ h => h) ?y36 hS ?_
    case y36 => first | (refine Or.inr ⟨by rfl, ?_⟩; with_reducible rfl) | (refine Or.inl ⟨by rfl, ?_⟩; intro wS hSw; have a5S := cell_later hSw A5.out; have a7S := cell_later hSw A7.out; have b5S := cell_later hSw B5.out; have b7S := cell_later hSw B7.out; have x0S := cell_later hSw X0.out; have x1S := cell_later hSw X1.out; have x2S := cell_later hSw X2.out; have x3S := cell_later hSw X3.out; have y0S := cell_later hSw Y0.out; have y1S := cell_later hSw Y1.out; have y2S := cell_later hSw Y2.out; have y3S := cell_later hSw Y3.out; go_simp; try with_reducible rfl)
    simp only [Act.put, List.setIfInBounds_toArray, List.set_cons_zero, List.set_cons_succ]
    refine wpAnyH_take (i := 38) (oi := ⟨_, _, _, _, _, _⟩) (v := ?v37) rfl (by kernel_rfl) (by kernel_rfl) (by kernel_rfl) (fun _ _ _ h => h) ?y37 hS ?_
    case y37 => first | (refine Or.inr ⟨by rfl, ?_⟩; with_reducible rfl) | (refine Or.inl ⟨by rfl, ?_⟩; intro wS hSw; have a5S := cell_later hSw A5.out; have a7S := cell_later hSw A7.out; have b5S := cell_later hSw B5.out; have b7S := cell_later hSw B7.out; have x0S := cell_later hSw X0.out; have x1S := cell_later hSw X1.out; have x2S := cell_later hSw X2.out; have x3S := cell_later hSw X3.out; have y0S := cell_later hSw Y0.out; have y1S := cell_later hSw Y1.out; have y2S := cell_later hSw Y2.out; have y3S := cell_later hSw Y3.out; go_simp; try with_reducible rfl)
    simp only [Act.put, List.setIfInBounds_toArray, List.set_cons_zero, List.set_cons_succ]
    refine wpAnyH_take (i := 39) (oi := ⟨_, _, _, _, _, _⟩) (v := ?v38) rfl (by kernel_rfl) (by kernel_rfl) (by kernel_rfl) (fun _ _ _ h => h) ?y38 hS ?_
    case y38 => first | (refine Or.inr ⟨by rfl, ?_⟩; with_reducible rfl) | (refine Or.inl ⟨by rfl, ?_⟩; intro wS hSw; have a5S := cell_later hSw A5.out; have a7S := cell_later hSw A7.out; have b5S := cell_later hSw B5.out; have b7S := cell_later hSw B7.out; have x0S := cell_later hSw X0.out; have x1S := cell_later hSw X1.out; have x2S := cell_later hSw X2.out; have x3S := cell_later hSw X3.out; have y0S := cell_later hSw Y0.out; have y1S := cell_later hSw Y1.out; have y2S := cell_later hSw Y2.out; have y3S := cell_later hSw Y3.out; go_simp; try with_reducible rfl)
    simp only [Act.put, List.setIfInBounds_toArray, List.set_cons_zero, List.set_cons_succ]
    refine wpAnyH_take (i := 40) (oi := ⟨_, _, _, _, _, _⟩) (v := ?v39) rfl (by kernel_rfl) (by kernel_rfl) (by kernel_rfl) (fun _ _ _ h => h) ?y39 hS ?_
    case y39 => first | (refine Or.inr ⟨by rfl, ?_⟩; with_reducible rfl) | (refine Or.inl ⟨by rfl, ?_⟩; intro wS hSw; have a5S := cell_later hSw A5.out; have a7S := cell_later hSw A7.out; have b5S := cell_later hSw B5.out; have b7S := cell_later hSw B7.out; have x0S := cell_later hSw X0.out; have x1S := cell_later hSw X1.out; have x2S := cell_later hSw X2.out; have x3S := cell_later hSw X3.out; have y0S := cell_later hSw Y0.out; have y1S := cell_later hSw Y1.out; have y2S := cell_later hSw Y2.out; have y3S := cell_later hSw Y3.out; go_simp; try with_reducible rfl)
    simp only [Act.put, List.setIfInBounds_toArray, List.set_cons_zero, List.set_cons_succ]
    refine wpAnyH_take (i := 41) (oi := ⟨_, _, _, _, _, _⟩) (v := ?v40) rfl (by kernel_rfl) (by kernel_rfl) (by kernel_rfl) (fun _ _ _ h => h) ?y40 hS ?_
    case y40 => first | (refine Or.inr ⟨by rfl, ?_⟩; with_reducible rfl) | (refine Or.inl ⟨by rfl, ?_⟩; intro wS hSw; have a5S := cell_later hSw A5.out; have a7S := cell_later hSw A7.out; have b5S := cell_later hSw B5.out; have b7S := cell_later hSw B7.out; have x0S := cell_later hSw X0.out; have x1S := cell_later hSw X1.out; have x2S := cell_later hSw X2.out; have x3S := cell_later hSw X3.out; have y0S := cell_later hSw Y0.out; have y1S := cell_later hSw Y1.out; have y2S := cell_later hSw Y2.out; have y3S := cell_later hSw Y3.out; go_simp; try with_reducible rfl)
    simp only [Act.put, List.setIfInBounds_toArray, List.set_cons_zero, List.set_cons_succ]
    refine wpAnyH_take (i := 42) (oi := ⟨_, _, _, _, _, _⟩) (v := ?v41) rfl (by kernel_rfl) (by kernel_rfl) (by kernel_rfl) (fun _ _ _ h => h) ?y41 hS ?_
    case y41 => first | (refine Or.inr ⟨by rfl, ?_⟩; with_reducible rfl) | (refine Or.inl ⟨by rfl, ?_⟩; intro wS hSw; have a5S := cell_later hSw A5.out; have a7S := cell_later hSw A7.out; have b5S := cell_later hSw B5.out; have b7S := cell_later hSw B7.out; have x0S := cell_later hSw X0.out; have x1S := cell_later hSw X1.out; have x2S := cell_later hSw X2.out; have x3S := cell_later hSw X3.out; have y0S := cell_later hSw Y0.out; have y1S := cell_later hSw Y1.out; have y2S := cell_later hSw Y2.out; have y3S := cell_later hSw Y3.out; go_simp; try with_reducible rfl)
    simp only [Act.put, List.setIfInBounds_toArray, List.set_cons_zero, List.set_cons_succ]
    refine wpAnyH_take (i := 43) (oi := ⟨_, _, _, _, _, _⟩) (v := ?v42) rfl (by kernel_rfl) (by kernel_rfl) (by kernel_rfl) (fun _ _ _ h => h) ?y42 hS ?_
    case y42 => first | (refine Or.inr ⟨by rfl, ?_⟩; with_reducible rfl) | (refine Or.inl ⟨by rfl, ?_⟩; intro wS hSw; have a5S := cell_later hSw A5.out; have a7S := cell_later hSw A7.out; have b5S := cell_later hSw B5.out; have b7S := cell_later hSw B7.out; have x0S := cell_later hSw X0.out; have x1S := cell_later hSw X1.out; have x2S := cell_later hSw X2.out; have x3S := cell_later hSw X3.out; have y0S := cell_later hSw Y0.out; have y1S := cell_later hSw Y1.out; have y2S := cell_later hSw Y2.out; have y3S := cell_later hSw Y3.out; go_simp; try with_reducible rfl)
    simp only [Act.put, List.setIfInBounds_toArray, List.set_cons_zero, List.set_cons_succ]
    refine wpAnyH_done (by kernel_rfl) ?_ _
    have HS := Lib.hid (HBu.out.trans (hS.mono HBu.out.size))
    clear hS
    go_wp2_with fail
    go_ret
    exact ⟨rfl, HS.out⟩
  · have hg : decide (200 < n) = true := by simpa using h200
    have hg2 : 200 < n := by omega
    clear h200
    go_wp2
    go_ret
    exact ⟨rfl, HB2.out⟩
end Go.Proofs.Ytebgleehmgmfbaa
