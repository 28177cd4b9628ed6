import Derived.Test.YtpchjpmkkiopiaaGreatMhGm
import Derived.Test.YtpchjpmkkiopiaaGreatMeNm
import Derived.Deep.CutBlock
namespace Go.Proofs.YtpchjpmkkiopiaaGreat
open Go.RowKit Go.Lib

theorem nine_box {w : World} {b : Nat} {x0 x1 x2 x3 x4 x5 x6 x7 x8 : Value} {t : TypeId} (h : w.heap[b]? = some (.cells #[x0, x1, x2, x3, x4, x5, x6, x7, x8] t (0, 0))) :
    w.cell? ⟨b, 0, none⟩ = some x0 ∧ w.cell? ⟨b, 1, none⟩ = some x1 ∧ w.cell? ⟨b, 2, none⟩ = some x2 ∧ w.cell? ⟨b, 3, none⟩ = some x3 ∧ w.cell? ⟨b, 4, none⟩ = some x4 ∧ w.cell? ⟨b, 5, none⟩ = some x5 ∧ w.cell? ⟨b, 6, none⟩ = some x6 ∧ w.cell? ⟨b, 7, none⟩ = some x7 ∧ w.cell? ⟨b, 8, none⟩ = some x8 := by simp [World.cell?, h]
/-- the old memory is turned under a watch over the copy. -/
abbrev cpB (B T : Nat) : Watch := ⟨fun k => B ≤ k ∧ k < T, T, fun _ h => h.2⟩
/-- what the rounds keep. -/
structure DoS (w wr : World) (p q nm km em r : Nat) (room next peak : Int) (k : Nat) (L D : List Rec) (kv lv : Value) : Prop where
  me : ∃ base, w.heap.size ≤ base ∧ @MeIs noWatch base wr p q nm km em next room peak L
  rm : Rm w.heap.size wr r kv lv room peak D
  pl : D.map plR = L.map plR
  nx : next ≤ k
  pk : (L.length : Int) ≤ peak
  sz : ∀ r ∈ L, r.x.tree.length ≤ 1000000 ∧ r.x.tou.length ≤ 1000000
  en : EntsAt w D
  bel : Below w.heap.size w wr
/-- the blocks of a round: the deed, the entry in memory of its own. -/
structure Bk (what : Int) (dk : Ky) (is : Bool) (en far : Int) (tree : List Tw) (tou : List Int) (at1 ak1 : Option Addr) (ct ck g1 g2 Z Y : Nat) (w : World) : Prop where
  z : w.heap[Z]? = some (.cells #[.int .i64 what, .int .i64 dk.rule, .int .i64 dk.level, .int .i64 dk.place, .bool is, .int .i64 en, .int .i64 far, .slice at1 tree.length ct, .slice ak1 tou.length ck] 33 (0, 0))
  y : w.heap[Y]? = some (.cells #[.bool is, .int .i64 en, .int .i64 far, .slice (some ⟨g1, 0, none⟩) tree.length (tree.length + 12), .slice (some ⟨g2, 0, none⟩) tou.length (tou.length + 12)] 30 (0, 0))
  t1 : TLentAt w g1 tree
  t2 : ILentAt w g2 tou
theorem Bk.later {what : Int} {dk : Ky} {is : Bool} {en far : Int} {tree : List Tw} {tou : List Int} {at1 ak1 : Option Addr} {ct ck g1 g2 Z Y : Nat} {w w' : World} (h : Bk what dk is en far tree tou at1 ak1 ct ck g1 g2 Z Y w) (hb : Below w.heap.size w w') : Bk what dk is en far tree tou at1 ak1 ct ck g1 g2 Z Y w' :=
  ⟨(hb.block _ (lt_of_block h.z)).trans h.z, (hb.block _ (lt_of_block h.y)).trans h.y, h.t1.later hb, h.t2.later hb⟩
theorem Bk.keepM {J : Watch} {base : Nat} {what : Int} {dk : Ky} {is : Bool} {en far : Int} {tree : List Tw} {tou : List Int} {at1 ak1 : Option Addr} {ct ck g1 g2 Z Y : Nat} {w w' : World} (h : Bk what dk is en far tree tou at1 ak1 ct ck g1 g2 Z Y w) (hk : @KeepM J base w w') : Bk what dk is en far tree tou at1 ak1 ct ck g1 g2 Z Y w' :=
  ⟨@KeepM.cells J _ _ _ hk _ _ _ _ h.z (by decide), @KeepM.cells J _ _ _ hk _ _ _ _ h.y (by decide), @KeepM.cells J _ _ _ hk _ _ _ _ (show w.heap[g1]? = _ from h.t1) (by decide), @KeepM.cells J _ _ _ hk _ _ _ _ (show w.heap[g2]? = _ from h.t2) (by decide)⟩
theorem Bk.keepR {base : Nat} {what : Int} {dk : Ky} {is : Bool} {en far : Int} {tree : List Tw} {tou : List Int} {at1 ak1 : Option Addr} {ct ck g1 g2 Z Y : Nat} {w w' : World} (h : Bk what dk is en far tree tou at1 ak1 ct ck g1 g2 Z Y w) (hk : KeepR base w w') : Bk what dk is en far tree tou at1 ak1 ct ck g1 g2 Z Y w' :=
  ⟨hk.cells h.z (by decide), hk.cells h.y (by decide), hk.cells (show w.heap[g1]? = _ from h.t1) (by decide), hk.cells (show w.heap[g2]? = _ from h.t2) (by decide)⟩
/-- the state in a round: the memory is watched over by what comes in. -/
structure DoT (w wr : World) (p q nm km em r : Nat) (room next peak : Int) (k : Nat) (L D : List Rec) (kv lv : Value) (g1 g2 : Nat) : Prop where
  me : ∃ base, w.heap.size ≤ base ∧ @MeIs (inW g1 g2) base wr p q nm km em next room peak L
  rm : Rm w.heap.size wr r kv lv room peak D
  pl : D.map plR = L.map plR
  nx : next ≤ k
  pk : (L.length : Int) ≤ peak
  sz : ∀ r ∈ L, r.x.tree.length ≤ 1000000 ∧ r.x.tou.length ≤ 1000000
  en : EntsAt w D
  bel : Below w.heap.size w wr
theorem DoT.later {w wr wx : World} {p q nm km em r k g1 g2 : Nat} {room next peak : Int} {L D : List Rec} {kv lv : Value} (h : DoT w wr p q nm km em r room next peak k L D kv lv g1 g2) (hb : Below wr.heap.size wr wx) : DoT w wx p q nm km em r room next peak k L D kv lv g1 g2 := by
  obtain ⟨base, h1, h2⟩ := h.me
  exact ⟨⟨base, h1, @MeIs.later (inW g1 g2) _ _ _ _ _ _ _ _ _ _ _ _ h2 hb⟩, h.rm.later hb, h.pl, h.nx, h.pk, h.sz, h.en, h.bel.trans (hb.mono h.bel.size)⟩
theorem DoS.later {w wr wx : World} {p q nm km em r k : Nat} {room next peak : Int} {L D : List Rec} {kv lv : Value} (h : DoS w wr p q nm km em r room next peak k L D kv lv) (hb : Below wr.heap.size wr wx) : DoS w wx p q nm km em r room next peak k L D kv lv := by
  obtain ⟨base, h1, h2⟩ := h.me
  exact ⟨⟨base, h1, @MeIs.later noWatch _ _ _ _ _ _ _ _ _ _ _ _ h2 hb⟩, h.rm.later hb, h.pl, h.nx, h.pk, h.sz, h.en, h.bel.trans (hb.mono h.bel.size)⟩
theorem MeIs.baseLe {J : Watch} {base : Nat} {w : World} {p q nm km em : Nat} {next room peak : Int} {L : List Rec} (h : @MeIs J base w p q nm km em next room peak L) : base ≤ w.heap.size := by
  obtain ⟨hl, -⟩ := h
  exact Nat.le_of_lt (Nat.lt_of_le_of_lt hl.bp (lt_of_block hl.blk))
theorem MeIs.ordl {J : Watch} {base : Nat} {w : World} {p q nm km em : Nat} {next room peak : Int} {L : List Rec} (h : @MeIs J base w p q nm km em next room peak L) : Ord L next ∧ (L.length : Int) ≤ next := by
  obtain ⟨hl, -⟩ := h
  exact ⟨hl.ord, hl.le⟩
theorem mDropX_any [Watch] {base : Nat} {p q nm km em : Nat} {next room peak : Int} {L : List Rec} (k : Ky) (w : World) (h : MeIs base w p q nm km em next room peak L) (hk : kyOk k) :
    Calls Tryz.prog 17 #[.pointer (some ⟨p, 0, none⟩), kyv k] w fun e w' => e = .returned (.bool (hasK L k)) ∧ MeIs base w' p q nm km em next room peak (dropK L k) ∧ KeepM base w w' := by
  cases hf : fndK L k with
  | none =>
    refine (mDropN_any w h hk hf).mono ?_
    rintro e w1 ⟨rfl, hb⟩
    exact ⟨by unfold hasK; rw [hf]; rfl, by rw [dropK_none hf]; exact h.later hb, KeepM.ofBelow hb⟩
  | some r =>
    refine (mDrop_any w h hf).mono ?_
    rintro e w1 ⟨rfl, h1, h2⟩
    exact ⟨by unfold hasK; rw [hf]; rfl, h1, h2⟩
theorem plR_sz {L D : List Rec} (h : D.map plR = L.map plR) (hs : ∀ r ∈ L, r.x.tree.length ≤ 1000000 ∧ r.x.tou.length ≤ 1000000) : ∀ r ∈ D, r.x.tree.length ≤ 1000000 ∧ r.x.tou.length ≤ 1000000 := fun r hr => by
  have : plR r ∈ L.map plR := by rw [← h]; exact List.mem_map.2 ⟨r, hr, rfl⟩
  obtain ⟨s, hs1, e⟩ := List.mem_map.1 this
  simp only [plR, Prod.mk.injEq] at e
  obtain ⟨-, -, -, -, -, e1, e2⟩ := e
  rw [← e1, ← e2]
  exact hs s hs1
theorem clr_len_le (L : List Rec) (pl : Int) : (clrK L pl).length ≤ L.length := List.length_filter_le _ _
set_option maxRecDepth 100000 in
set_option maxHeartbeats 64000000 in
theorem memoDoes_main (room : Int) (v : Value) (l : List DeM) (w : World) (h : DsAt w v l) :
    Calls Tryz.prog 5 #[.int .i64 room, v] w fun e w' => e = .returned (.bool true) ∧ Below w.heap.size w w' := by
  have H := Lib.hid h
  obtain ⟨ao, cap, rfl⟩ := h.val
  have hcm : l.length ≤ 9223372036854775807 := by have := h.cells.1; have := h.cells.2.1; unfold maxLen at this; omega
  obtain ⟨n, hn⟩ : ∃ n, n = l.length := ⟨_, rfl⟩
  have HN := Lib.hid hn
  rw [← hn] at H hcm ⊢
  clear h hn
  have HAw := Lib.hid awake_any
  go_enter Tryz.func5, Tryz.ntmps5
  by_cases hn2 : 200 < n
  · have hn3 : (200 : Int) < n := by omega
    go_wp2_with fail
    refine (HAw.out w).mono ?_
    rintro e w1 ⟨rfl, hb⟩
    have HB := Lib.hid hb
    clear hb
    go_wp2
    go_ret
    exact ⟨rfl, HB.out⟩
  have hn3 : ¬ (200 : Int) < n := by omega
  go_wp2_with fail
  refine (size_any _ l w H.out (by have := HN.out; omega)).mono ?_
  rintro e w1 ⟨s, rfl, hs, hb⟩
  have HB := Lib.hid hb
  have HS := Lib.hid hs
  clear hb hs
  by_cases hs2 : 2000 < s
  · go_wp2_with fail
    refine (HAw.out w1).mono ?_
    rintro e w2 ⟨rfl, hb⟩
    have HB2 := Lib.hid (HB.out.trans (hb.mono HB.out.size))
    clear hb
    go_wp2
    go_ret
    exact ⟨rfl, HB2.out⟩
  have HLn := Lib.hid (HS.out (by omega))
  by_cases hr : room < 0
  · go_wp2_with fail
    refine (mNewE_any room w1 hr).mono ?_
    rintro e w2 ⟨rfl, hb2⟩
    replace HB := Lib.hid (HB.out.trans (hb2.mono HB.out.size))
    clear hb2
    go_wp2_with fail
    refine (rmNewE_any room w2 hr).mono ?_
    rintro e w3 ⟨rfl, rfl⟩
    go_wp2_with fail
    refine (HAw.out w2).mono ?_
    rintro e w4 ⟨rfl, hb⟩
    replace HB := Lib.hid (HB.out.trans (hb.mono HB.out.size))
    clear hb
    go_wp2
    go_ret
    exact ⟨rfl, HB.out⟩
  go_wp2_with fail
  refine (@mNew_any noWatch w.heap.size room w1 (by omega) HB.out.size (Nat.zero_le _)).mono ?_
  rintro e w2 ⟨p, q, nm, km, em, rfl, hm, hb2⟩
  have HM := Lib.hid hm
  replace HB := Lib.hid (HB.out.trans (hb2.mono HB.out.size))
  clear hm hb2
  go_wp2_with fail
  refine (rmNew_any room w2 (by omega)).mono ?_
  rintro e w3 ⟨r, kv, lv, rfl, hrm, hb3⟩
  have HS0 := Lib.hid (show DoS w w3 p q nm km em r room 0 0 0 [] [] kv lv from ⟨⟨_, Nat.le_refl _, @MeIs.later noWatch _ _ _ _ _ _ _ _ _ _ _ _ HM.out hb3⟩, ⟨hrm.blk, ownsRow_base hrm.keys HB.out.size, ownsRow_base hrm.ents HB.out.size, hrm.le, hrm.once, hrm.one, Nat.le_trans HB.out.size hrm.br⟩, rfl, by simp, by simp, fun r hr => by simp at hr, fun r hr => by simp at hr, HB.out.trans (hb3.mono HB.out.size)⟩)
  clear hrm hb3 HM HB
  go_upto_region 8 with (fail)
  go_loopw [5, 9] (fun mp i wr => ∃ (k p q nm km em : Nat) (next peak : Int) (L D : List Rec) (kv lv : Value), k ≤ n ∧ mp = .pointer (some ⟨p, 0, none⟩) ∧ i = .int .i64 k ∧ Hid (DoS w wr p q nm km em r room next peak k L D kv lv)) (fun _ i _ => n - (intOf i).toNat)
  case atStart => exact ⟨0, p, q, nm, km, em, 0, 0, [], [], kv, lv, Nat.zero_le _, rfl, rfl, HS0⟩
  case round =>
    clear HS0
    obtain ⟨k, p, q, nm, km, em, next, peak, L, D, kv, lv, hk, rfl, rfl, HSt⟩ := hrel
    by_cases hlt : k < n
    · have hlt2 : (k : Int) < n := by omega
      have hkl : k < l.length := by rw [← HN.out]; exact hlt
      obtain ⟨b, off, rfl, -, c0, c1, c2, c3, c4, c5, c6, c7, c8⟩ := (H.out.later HSt.out.bel).cells.2.2 k hkl
      obtain ⟨hdk, hda, hdi⟩ := H.out.ok _ (List.getElem_mem hkl)
      obtain ⟨hl1, hl2⟩ := HLn.out _ (List.getElem_mem hkl)
      obtain ⟨d, hd⟩ : ∃ d, d = l[k] := ⟨_, rfl⟩
      rw [← hd] at c0 c1 c2 c3 c4 c5 c6 c7 c8 hdk hda hdi hl1 hl2
      clear hd hkl
      obtain ⟨what, dk, ⟨is, en, far, tree, tou, tv, kvx⟩⟩ := d
      simp only at c0 c1 c2 c3 c4 c5 c6 c7 c8 hdk hda hdi hl1 hl2
      obtain ⟨at1, ct, rfl⟩ := hda.val
      obtain ⟨ak1, ck, rfl, -, -, -⟩ := iv_open hdi
      have HTa := Lib.hid hda
      have HIa := Lib.hid hdi
      have HDk := Lib.hid hdk
      have HL1 := Lib.hid (show tree.length ≤ 1000000 by omega)
      have HL2 := Lib.hid (show tou.length ≤ 1000000 by omega)
      clear hdk hda hdi hl1 hl2
      go_upto_region 11 with (fail)
      refine gen_world (S := fun v => Below wr.heap.size wr v ∧ v.heap[wr.heap.size]? = some (.cells #[.int .i64 what, .int .i64 dk.rule, .int .i64 dk.level, .int .i64 dk.place, .bool is, .int .i64 en, .int .i64 far, .slice at1 tree.length ct, .slice ak1 tou.length ck] 33 (0, 0))) (one_new wr _) (fun u hu => ?_)
      obtain ⟨hb, hz⟩ := hu
      obtain ⟨Z, hZ⟩ : ∃ Z, Z = wr.heap.size := ⟨_, rfl⟩
      rw [← hZ] at hz ⊢
      have HZ := Lib.hid hz
      have HB := Lib.hid hb
      obtain ⟨z0, z1, z2, z3, z4, z5, z6, z7, z8⟩ := nine_box hz
      clear hb hz hZ c0 c1 c2 c3 c4 c5 c6 c7 c8
      have hbw := HSt.out.bel.trans (HB.out.mono HSt.out.bel.size)
      go_wp2_with fail
      refine (lent_any ⟨is, en, far, tree, tou, .slice at1 tree.length ct, .slice ak1 tou.length ck⟩ u (HTa.out.later hbw) (HIa.out.later hbw) HL1.out HL2.out).mono ?_
      rintro e w2 ⟨g1, g2, rfl, ht1, ht2, hg1, hg2, hb2⟩
      clear hbw z0 z1 z2 z3 z4 z5 z6 z7 z8
      have HZ2 := Lib.hid ((hb2.block _ (lt_of_block HZ.out)).trans HZ.out)
      have HB2 := Lib.hid (HB.out.trans (hb2.mono HB.out.size))
      have HG := Lib.hid (show wr.heap.size ≤ g1 ∧ wr.heap.size ≤ g2 from by have := HB.out.size; exact ⟨by omega, by omega⟩)
      have HT1 := Lib.hid (And.intro ht1 ht2)
      clear hb2 hg1 hg2 ht1 ht2 HZ HB
      go_upto_region 12 with (fail)
      refine gen_world (S := fun v => Below w2.heap.size w2 v ∧ v.heap[w2.heap.size]? = some (.cells #[.bool is, .int .i64 en, .int .i64 far, .slice (some ⟨g1, 0, none⟩) tree.length (tree.length + 12), .slice (some ⟨g2, 0, none⟩) tou.length (tou.length + 12)] 30 (0, 0))) (one_new w2 _) (fun u3 hu => ?_)
      obtain ⟨hb, hy⟩ := hu
      obtain ⟨Y, hY⟩ : ∃ Y, Y = w2.heap.size := ⟨_, rfl⟩
      rw [← hY] at hy ⊢
      have HK := Lib.hid (show Bk what dk is en far tree tou at1 ak1 ct ck g1 g2 Z Y u3 from ⟨(hb.block _ (lt_of_block HZ2.out)).trans HZ2.out, hy, HT1.out.1.later hb, HT1.out.2.later hb⟩)
      have HB3 := Lib.hid (HB2.out.trans (hb.mono HB2.out.size))
      clear hb hy hY HZ2 HT1 HB2
      have HT := Lib.hid (show DoT w u3 p q nm km em r room next peak k L D kv lv g1 g2 from by
        obtain ⟨⟨base, h1, h2⟩, h3, h4, h5, h6, h7, h8, h9⟩ := HSt.out
        refine ⟨⟨base, h1, @MeIs.rewatch noWatch _ _ _ _ _ _ _ _ _ _ _ _ h2 HB3.out (inW g1 g2) (fun k hk => .inr ?_) ?_⟩, h3.later HB3.out, h4, h5, h6, h7, h8, h9.trans (HB3.out.mono h9.size)⟩
        · have := HG.out
          rcases hk with hk | hk <;> omega
        · have h1 := lt_of_block (show u3.heap[g1]? = _ from HK.out.t1)
          have h2 := lt_of_block (show u3.heap[g2]? = _ from HK.out.t2)
          show max g1 g2 + 1 ≤ _
          omega)
      have HGl := Lib.hid (show g1 < u3.heap.size ∧ g2 < u3.heap.size from ⟨lt_of_block (show u3.heap[g1]? = _ from HK.out.t1), lt_of_block (show u3.heap[g2]? = _ from HK.out.t2)⟩)
      have HGw := Lib.hid (show w.heap.size ≤ g1 ∧ w.heap.size ≤ g2 from by have h1 := HG.out; have h2 := HSt.out.bel.size; exact ⟨by omega, by omega⟩)
      clear HSt HB3 HG
      obtain ⟨z0, -⟩ := nine_box HK.out.z
      go_wp2_with fail
      refine (pick_any u3 what 4 (by omega) (by omega)).mono ?_
      rintro e w4 ⟨rfl, rfl⟩
      have hpv := pickN_range what 4 (by omega)
      generalize pickN what 4 = pv at hpv ⊢
      clear z0
      go_upto_block 2 with (fail)
      go_cut [5] (fun y5 wx => ∃ (p q nm km em : Nat) (next peak : Int) (L D : List Rec) (kv lv : Value), y5 = .pointer (some ⟨p, 0, none⟩) ∧ Hid (DoT w wx p q nm km em r room next peak (k + 1) L D kv lv g1 g2 ∧ Bk what dk is en far tree tou at1 ak1 ct ck g1 g2 Z Y wx))
      case first =>
        have h4 : pv = 0 ∨ pv = 1 ∨ pv = 2 ∨ pv = 3 := by omega
        clear hpv
        obtain ⟨⟨base, hbs, hme⟩, hrm, hpl, hnx, hpk, hsz, hen, hbel⟩ := HT.out
        have hbb : base ≤ u3.heap.size := MeIs.baseLe hme
        have hbx : ∀ {a b : World}, Below base a b → Below w.heap.size a b := fun h => h.mono hbs
        have HME := Lib.hid hme
        have HRM := Lib.hid hrm
        have HOR := Lib.hid (MeIs.ordl hme)
        have HPL := Lib.hid hpl
        have HNX := Lib.hid (And.intro hnx hpk)
        have HSZ := Lib.hid hsz
        have HEN := Lib.hid hen
        have HBL := Lib.hid hbel
        have HBB := Lib.hid hbb
        have HBS := Lib.hid hbs
        have HLD := Lib.hid (plR_len hpl)
        clear hme hrm hpl hnx hpk hsz hen hbel hbb hbx hbs HT
        rcases h4 with rfl | rfl | rfl | rfl
        · obtain ⟨z0, z1, z2, z3, z4, z5, z6, z7, z8⟩ := nine_box HK.out.z
          obtain ⟨⟨y0, y1, y2, y3, y4⟩, -⟩ := five_box HK.out.y
          go_wp2_with fail
          refine (@mPutX_any (inW g1 g2) base p q nm km em next room peak L dk ⟨is, en, far, tree, tou, .slice (some ⟨g1, 0, none⟩) tree.length (tree.length + 12), .slice (some ⟨g2, 0, none⟩) tou.length (tou.length + 12)⟩ u3 HME.out HDk.out (HK.out.t1.own HL1.out) (HK.out.t2.own HL2.out) HL1.out HL2.out (by have := HNX.out.1; omega)).mono ?_
          rintro e w4 ⟨gv, G, err, n1, p1, L1, rfl, hG, hrel, hm1, hkp⟩
          have HK4 := Lib.hid (HK.out.keepM hkp)
          have HM4 := Lib.hid hm1
          have HG4 := Lib.hid hG
          have HRel := Lib.hid hrel
          have HRM4 := Lib.hid (@Rm.keepM (inW g1 g2) _ _ _ _ _ _ _ _ _ _ HRM.out hkp)
          have HBL4 := Lib.hid (HBL.out.trans ((@KeepM.below (inW g1 g2) _ _ _ hkp HBB.out).mono HBS.out))
          clear hG hrel hm1 hkp z0 z1 z2 z3 z4 z5 z6 z7 z8 y0 y1 y2 y3 y4
          go_upto_region 15 with (fail)
          refine wp_region_held_drew (S := fun z => z.heap[Z]? = some (.cells #[.int .i64 what, .int .i64 dk.rule, .int .i64 dk.level, .int .i64 dk.place, .bool is, .int .i64 en, .int .i64 far, .slice at1 tree.length ct, .slice ak1 tou.length ck] 33 (0, 0))) (by kernel_rfl) (show w4.drew.heap[Z]? = _ from HK4.out.z) (fun hS => ?_)
          refine wpAnyH_take (i := 0) (oi := ⟨_, _, _, _, _, _⟩) (v := ?v1) rfl (by kernel_rfl) (by kernel_rfl) (by kernel_rfl) (fun _ _ _ h => h) ?y1 hS ?_
          case y1 => first | (refine Or.inr ⟨by rfl, ?_⟩; with_reducible rfl) | (refine Or.inl ⟨by rfl, ?_⟩; intro wS hSw; obtain ⟨z0, z1, z2, z3, z4, z5, z6, z7, z8⟩ := nine_box hSw; go_simp; try with_reducible rfl)
          simp only [Act.put, List.setIfInBounds_toArray, List.set_cons_zero, List.set_cons_succ]
          refine wpAnyH_take (i := 1) (oi := ⟨_, _, _, _, _, _⟩) (v := ?v2) rfl (by kernel_rfl) (by kernel_rfl) (by kernel_rfl) (fun _ _ _ h => h) ?y2 hS ?_
          case y2 => first | (refine Or.inr ⟨by rfl, ?_⟩; with_reducible rfl) | (refine Or.inl ⟨by rfl, ?_⟩; intro wS hSw; obtain ⟨z0, z1, z2, z3, z4, z5, z6, z7, z8⟩ := nine_box hSw; go_simp; try with_reducible rfl)
          simp only [Act.put, List.setIfInBounds_toArray, List.set_cons_zero, List.set_cons_succ]
          refine wpAnyH_take (i := 2) (oi := ⟨_, _, _, _, _, _⟩) (v := ?v3) rfl (by kernel_rfl) (by kernel_rfl) (by kernel_rfl) (fun _ _ _ h => h) ?y3 hS ?_
          case y3 => first | (refine Or.inr ⟨by rfl, ?_⟩; with_reducible rfl) | (refine Or.inl ⟨by rfl, ?_⟩; intro wS hSw; obtain ⟨z0, z1, z2, z3, z4, z5, z6, z7, z8⟩ := nine_box hSw; go_simp; try with_reducible rfl)
          simp only [Act.put, List.setIfInBounds_toArray, List.set_cons_zero, List.set_cons_succ]
          refine wpAnyH_take (i := 4) (oi := ⟨_, _, _, _, _, _⟩) (v := ?v4) rfl (by kernel_rfl) (by kernel_rfl) (by kernel_rfl) (fun _ _ _ h => h) ?y4 hS ?_
          case y4 => first | (refine Or.inr ⟨by rfl, ?_⟩; with_reducible rfl) | (refine Or.inl ⟨by rfl, ?_⟩; intro wS hSw; obtain ⟨z0, z1, z2, z3, z4, z5, z6, z7, z8⟩ := nine_box hSw; go_simp; try with_reducible rfl)
          simp only [Act.put, List.setIfInBounds_toArray, List.set_cons_zero, List.set_cons_succ]
          refine wpAnyH_take (i := 5) (oi := ⟨_, _, _, _, _, _⟩) (v := ?v5) rfl (by kernel_rfl) (by kernel_rfl) (by kernel_rfl) (fun _ _ _ h => h) ?y5 hS ?_
          case y5 => first | (refine Or.inr ⟨by rfl, ?_⟩; with_reducible rfl) | (refine Or.inl ⟨by rfl, ?_⟩; intro wS hSw; obtain ⟨z0, z1, z2, z3, z4, z5, z6, z7, z8⟩ := nine_box hSw; go_simp; try with_reducible rfl)
          simp only [Act.put, List.setIfInBounds_toArray, List.set_cons_zero, List.set_cons_succ]
          refine wpAnyH_take (i := 6) (oi := ⟨_, _, _, _, _, _⟩) (v := ?v6) rfl (by kernel_rfl) (by kernel_rfl) (by kernel_rfl) (fun _ _ _ h => h) ?y6 hS ?_
          case y6 => first | (refine Or.inr ⟨by rfl, ?_⟩; with_reducible rfl) | (refine Or.inl ⟨by rfl, ?_⟩; intro wS hSw; obtain ⟨z0, z1, z2, z3, z4, z5, z6, z7, z8⟩ := nine_box hSw; go_simp; try with_reducible rfl)
          simp only [Act.put, List.setIfInBounds_toArray, List.set_cons_zero, List.set_cons_succ]
          refine wpAnyH_take (i := 7) (oi := ⟨_, _, _, _, _, _⟩) (v := ?v7) rfl (by kernel_rfl) (by kernel_rfl) (by kernel_rfl) (fun _ _ _ h => h) ?y7 hS ?_
          case y7 => first | (refine Or.inr ⟨by rfl, ?_⟩; with_reducible rfl) | (refine Or.inl ⟨by rfl, ?_⟩; intro wS hSw; obtain ⟨z0, z1, z2, z3, z4, z5, z6, z7, z8⟩ := nine_box hSw; go_simp; try with_reducible rfl)
          simp only [Act.put, List.setIfInBounds_toArray, List.set_cons_zero, List.set_cons_succ]
          refine wpAnyH_take (i := 8) (oi := ⟨_, _, _, _, _, _⟩) (v := ?v8) rfl (by kernel_rfl) (by kernel_rfl) (by kernel_rfl) (fun _ _ _ h => h) ?y8 hS ?_
          case y8 => first | (refine Or.inr ⟨by rfl, ?_⟩; with_reducible rfl) | (refine Or.inl ⟨by rfl, ?_⟩; intro wS hSw; obtain ⟨z0, z1, z2, z3, z4, z5, z6, z7, z8⟩ := nine_box hSw; go_simp; try with_reducible rfl)
          simp only [Act.put, List.setIfInBounds_toArray, List.set_cons_zero, List.set_cons_succ]
          refine wpAnyH_take (i := 9) (oi := ⟨_, _, _, _, _, _⟩) (v := ?v9) rfl (by kernel_rfl) (by kernel_rfl) (by kernel_rfl) (fun _ _ _ h => h) ?y9 hS ?_
          case y9 => first | (refine Or.inr ⟨by rfl, ?_⟩; with_reducible rfl) | (refine Or.inl ⟨by rfl, ?_⟩; intro wS hSw; obtain ⟨z0, z1, z2, z3, z4, z5, z6, z7, z8⟩ := nine_box hSw; go_simp; try with_reducible rfl)
          simp only [Act.put, List.setIfInBounds_toArray, List.set_cons_zero, List.set_cons_succ]
          refine wpAnyH_take (i := 10) (oi := ⟨_, _, _, _, _, _⟩) (v := ?v10) rfl (by kernel_rfl) (by kernel_rfl) (by kernel_rfl) (fun _ _ _ h => h) ?y10 hS ?_
          case y10 => first | (refine Or.inr ⟨by rfl, ?_⟩; with_reducible rfl) | (refine Or.inl ⟨by rfl, ?_⟩; intro wS hSw; obtain ⟨z0, z1, z2, z3, z4, z5, z6, z7, z8⟩ := nine_box hSw; go_simp; try with_reducible rfl)
          simp only [Act.put, List.setIfInBounds_toArray, List.set_cons_zero, List.set_cons_succ]
          refine wpAnyH_ready (rs := [3]) (by kernel_rfl) (by simp) ?_
          refine AllReadyH.cons (o := ⟨_, _, _, _, _, _⟩) rfl (fun K hK => ?_) AllReadyH.nil
          go_simp
          refine (key_any dk _).mono ?_
          rintro e w5 ⟨rfl, hb⟩
          have hS1 := (hb.block _ (lt_of_block hS)).trans hS
          go_wp2_with fail
          refine hK.out _ _ hS1 (fun hSd => ?_)
          clear hSd hK K hS
          try simp only [Act.put, List.setIfInBounds_toArray, List.set_cons_zero, List.set_cons_succ]
          have hS := hS1
          clear hS1
          have HB5 := Lib.hid ((Below.refl _ w4).drew.trans hb)
          clear hb
          refine wpAnyH_ready (rs := [11]) (by kernel_rfl) (by simp) ?_
          refine AllReadyH.cons (o := ⟨_, _, _, _, _, _⟩) rfl (fun K hK => ?_) AllReadyH.nil
          go_simp
          refine (rmPutX_any (k := dk) next ⟨is, en, far, tree, tou, .slice at1 tree.length ct, .slice ak1 tou.length ck⟩ w5 (HRM4.out.later HB5.out) ⟨⟨_, _, _, rfl⟩, ⟨_, _, _, rfl⟩⟩ (plR_rise HPL.out HOR.out.1.rise) (by rw [HLD.out]; exact HNX.out.2) (by have h1 := HOR.out.2; have h2 := HNX.out.1; have h3 := HLD.out; omega) (HBL4.out.trans (HB5.out.mono HBL4.out.size)).size).mono ?_
          rintro e w6 ⟨hv, G2, err2, n2, p2, D1, kv1, lv1, rfl, hG2, hrel2, hrm6, hkr, hmem⟩
          obtain ⟨e1, e2, e3, e4, hpl6⟩ := put_same HPL.out HOR.out.1.rise (by rfl) HRel.out hrel2
          subst e1 e2 e3 e4
          have hS1 := hkr.cells hS (by decide)
          have HD := Lib.hid (show DoT w w6 p q nm km em r room n2 p2 (k + 1) L1 D1 kv1 lv1 g1 g2 ∧ Bk what dk is en far tree tou at1 ak1 ct ck g1 g2 Z Y w6 from by
            refine ⟨⟨⟨base, HBS.out, @MeIs.keepR (inW g1 g2) _ _ _ _ _ _ _ _ _ _ _ _ _ (@MeIs.later (inW g1 g2) _ _ _ _ _ _ _ _ _ _ _ _ HM4.out HB5.out) hkr⟩, hrm6, hpl6, ?_, HRel.out.peak HOR.out.1.once HNX.out.2, ?_, ?_, ?_⟩, (HK4.out.later HB5.out).keepR hkr⟩
            · have := HRel.out.next
              have := HNX.out.1
              omega
            · exact HRel.out.all (Q := fun x => x.tree.length ≤ 1000000 ∧ x.tou.length ≤ 1000000) (fun a b hab hb => by
                simp only [plX, Prod.mk.injEq] at hab
                rw [hab.2.2.2.1, hab.2.2.2.2]
                exact hb) HSZ.out ⟨HL1.out, HL2.out⟩
            · intro a ha
              rcases hmem a ha with ⟨s, hs, e⟩ | e
              · rw [e]; exact HEN.out s hs
              · rw [e]; exact ⟨HTa.out, HIa.out⟩
            · have h1 := HBL4.out.trans (HB5.out.mono HBL4.out.size)
              exact h1.trans (hkr.below h1.size))
          have HGa := Lib.hid (show KyAt w6 gv G2 from KyOwn.at (hkr.row (row_later HG4.out HB5.out) (by decide)))
          have HGb := Lib.hid (show KyAt w6 hv G2 from own_rows kcl rfl hG2)
          go_wp2_with fail
          refine hK.out _ _ hS1 (fun hSd => ?_)
          clear hSd hK K hS
          try simp only [Act.put, List.setIfInBounds_toArray, List.set_cons_zero, List.set_cons_succ]
          have hS := hS1
          clear hS1 hG2 hrel2 hrm6 hkr hmem hpl6
          refine wpAnyH_take (i := 12) (oi := ⟨_, _, _, _, _, _⟩) (v := ?v11) rfl (by kernel_rfl) (by kernel_rfl) (by kernel_rfl) (fun _ _ _ h => h) ?y11 hS ?_
          case y11 => first | (refine Or.inr ⟨by rfl, ?_⟩; with_reducible rfl) | (refine Or.inl ⟨by rfl, ?_⟩; intro wS hSw; go_simp; try with_reducible rfl)
          simp only [Act.put, List.setIfInBounds_toArray, List.set_cons_zero, List.set_cons_succ]
          refine wpAnyH_take (i := 13) (oi := ⟨_, _, _, _, _, _⟩) (v := ?v12) rfl (by kernel_rfl) (by kernel_rfl) (by kernel_rfl) (fun _ _ _ h => h) ?y12 hS ?_
          case y12 => first | (refine Or.inr ⟨by rfl, ?_⟩; with_reducible rfl) | (refine Or.inl ⟨by rfl, ?_⟩; intro wS hSw; go_simp; try with_reducible rfl)
          simp only [Act.put, List.setIfInBounds_toArray, List.set_cons_zero, List.set_cons_succ]
          refine wpAnyH_take (i := 14) (oi := ⟨_, _, _, _, _, _⟩) (v := ?v13) rfl (by kernel_rfl) (by kernel_rfl) (by kernel_rfl) (fun _ _ _ h => h) ?y13 hS ?_
          case y13 => first | (refine Or.inr ⟨by rfl, ?_⟩; with_reducible rfl) | (refine Or.inl ⟨by rfl, ?_⟩; intro wS hSw; go_simp; try with_reducible rfl)
          simp only [Act.put, List.setIfInBounds_toArray, List.set_cons_zero, List.set_cons_succ]
          refine wpAnyH_take (i := 15) (oi := ⟨_, _, _, _, _, _⟩) (v := ?v14) rfl (by kernel_rfl) (by kernel_rfl) (by kernel_rfl) (fun _ _ _ h => h) ?y14 hS ?_
          case y14 => first | (refine Or.inr ⟨by rfl, ?_⟩; with_reducible rfl) | (refine Or.inl ⟨by rfl, ?_⟩; intro wS hSw; go_simp; try with_reducible rfl)
          simp only [Act.put, List.setIfInBounds_toArray, List.set_cons_zero, List.set_cons_succ]
          refine wpAnyH_take (i := 16) (oi := ⟨_, _, _, _, _, _⟩) (v := ?v15) rfl (by kernel_rfl) (by kernel_rfl) (by kernel_rfl) (fun _ _ _ h => h) ?y15 hS ?_
          case y15 => first | (refine Or.inr ⟨by rfl, ?_⟩; with_reducible rfl) | (refine Or.inl ⟨by rfl, ?_⟩; intro wS hSw; go_simp; try with_reducible rfl)
          simp only [Act.put, List.setIfInBounds_toArray, List.set_cons_zero, List.set_cons_succ]
          refine wpAnyH_done (by kernel_rfl) ?_ _
          clear hS
          have hee : (err2 != err2) = false := by simp
          go_wp2_with fail
          refine (keys_any gv hv G2 w6 HGa.out HGb.out).mono ?_
          rintro e w7 ⟨rfl, hb7⟩
          replace HD := Lib.hid (And.intro (HD.out.1.later hb7) (HD.out.2.later hb7))
          clear hb7
          go_wp2
          go_meet
          exact ⟨p, q, nm, km, em, n2, p2, L1, D1, kv1, lv1, rfl, HD⟩
        · go_upto_region 19 with (fail)
          refine wp_region_held_drew (S := fun z => z.heap[Z]? = some (.cells #[.int .i64 what, .int .i64 dk.rule, .int .i64 dk.level, .int .i64 dk.place, .bool is, .int .i64 en, .int .i64 far, .slice at1 tree.length ct, .slice ak1 tou.length ck] 33 (0, 0))) (by kernel_rfl) (show u3.drew.heap[Z]? = _ from HK.out.z) (fun hS => ?_)
          refine wpAnyH_take (i := 0) (oi := ⟨_, _, _, _, _, _⟩) (v := ?v16) rfl (by kernel_rfl) (by kernel_rfl) (by kernel_rfl) (fun _ _ _ h => h) ?y16 hS ?_
          case y16 => first | (refine Or.inr ⟨by rfl, ?_⟩; with_reducible rfl) | (refine Or.inl ⟨by rfl, ?_⟩; intro wS hSw; obtain ⟨z0, z1, z2, z3, z4, z5, z6, z7, z8⟩ := nine_box hSw; go_simp; try with_reducible rfl)
          simp only [Act.put, List.setIfInBounds_toArray, List.set_cons_zero, List.set_cons_succ]
          refine wpAnyH_take (i := 1) (oi := ⟨_, _, _, _, _, _⟩) (v := ?v17) rfl (by kernel_rfl) (by kernel_rfl) (by kernel_rfl) (fun _ _ _ h => h) ?y17 hS ?_
          case y17 => first | (refine Or.inr ⟨by rfl, ?_⟩; with_reducible rfl) | (refine Or.inl ⟨by rfl, ?_⟩; intro wS hSw; obtain ⟨z0, z1, z2, z3, z4, z5, z6, z7, z8⟩ := nine_box hSw; go_simp; try with_reducible rfl)
          simp only [Act.put, List.setIfInBounds_toArray, List.set_cons_zero, List.set_cons_succ]
          refine wpAnyH_take (i := 2) (oi := ⟨_, _, _, _, _, _⟩) (v := ?v18) rfl (by kernel_rfl) (by kernel_rfl) (by kernel_rfl) (fun _ _ _ h => h) ?y18 hS ?_
          case y18 => first | (refine Or.inr ⟨by rfl, ?_⟩; with_reducible rfl) | (refine Or.inl ⟨by rfl, ?_⟩; intro wS hSw; obtain ⟨z0, z1, z2, z3, z4, z5, z6, z7, z8⟩ := nine_box hSw; go_simp; try with_reducible rfl)
          simp only [Act.put, List.setIfInBounds_toArray, List.set_cons_zero, List.set_cons_succ]
          refine wpAnyH_take (i := 4) (oi := ⟨_, _, _, _, _, _⟩) (v := ?v19) rfl (by kernel_rfl) (by kernel_rfl) (by kernel_rfl) (fun _ _ _ h => h) ?y19 hS ?_
          case y19 => first | (refine Or.inr ⟨by rfl, ?_⟩; with_reducible rfl) | (refine Or.inl ⟨by rfl, ?_⟩; intro wS hSw; obtain ⟨z0, z1, z2, z3, z4, z5, z6, z7, z8⟩ := nine_box hSw; go_simp; try with_reducible rfl)
          simp only [Act.put, List.setIfInBounds_toArray, List.set_cons_zero, List.set_cons_succ]
          refine wpAnyH_take (i := 5) (oi := ⟨_, _, _, _, _, _⟩) (v := ?v20) rfl (by kernel_rfl) (by kernel_rfl) (by kernel_rfl) (fun _ _ _ h => h) ?y20 hS ?_
          case y20 => first | (refine Or.inr ⟨by rfl, ?_⟩; with_reducible rfl) | (refine Or.inl ⟨by rfl, ?_⟩; intro wS hSw; obtain ⟨z0, z1, z2, z3, z4, z5, z6, z7, z8⟩ := nine_box hSw; go_simp; try with_reducible rfl)
          simp only [Act.put, List.setIfInBounds_toArray, List.set_cons_zero, List.set_cons_succ]
          refine wpAnyH_take (i := 6) (oi := ⟨_, _, _, _, _, _⟩) (v := ?v21) rfl (by kernel_rfl) (by kernel_rfl) (by kernel_rfl) (fun _ _ _ h => h) ?y21 hS ?_
          case y21 => first | (refine Or.inr ⟨by rfl, ?_⟩; with_reducible rfl) | (refine Or.inl ⟨by rfl, ?_⟩; intro wS hSw; obtain ⟨z0, z1, z2, z3, z4, z5, z6, z7, z8⟩ := nine_box hSw; go_simp; try with_reducible rfl)
          simp only [Act.put, List.setIfInBounds_toArray, List.set_cons_zero, List.set_cons_succ]
          refine wpAnyH_ready (rs := [3]) (by kernel_rfl) (by simp) ?_
          refine AllReadyH.cons (o := ⟨_, _, _, _, _, _⟩) rfl (fun K hK => ?_) AllReadyH.nil
          go_simp
          refine (@mDropX_any (inW g1 g2) base p q nm km em next room peak L dk _ (@MeIs.later (inW g1 g2) _ _ _ _ _ _ _ _ _ _ _ _ HME.out (Below.refl _ u3).drew) HDk.out).mono ?_
          rintro e w4 ⟨rfl, hm1, hkp⟩
          have hS1 := @KeepM.cells (inW g1 g2) _ _ _ hkp _ _ _ _ hS (by decide)
          have hd3 := (Below.refl u3.heap.size u3).drew
          have HK4 := Lib.hid ((HK.out.later hd3).keepM hkp)
          have HM4 := Lib.hid hm1
          have HRM4 := Lib.hid (@Rm.keepM (inW g1 g2) _ _ _ _ _ _ _ _ _ _ (HRM.out.later hd3) hkp)
          have HBL4 := Lib.hid ((HBL.out.trans (hd3.mono HBL.out.size)).trans ((@KeepM.below (inW g1 g2) _ _ _ hkp HBB.out).mono HBS.out))
          clear hd3 hm1 hkp
          go_wp2_with fail
          refine hK.out _ _ hS1 (fun hSd => ?_)
          clear hSd hK K hS
          try simp only [Act.put, List.setIfInBounds_toArray, List.set_cons_zero, List.set_cons_succ]
          have hS := hS1
          clear hS1
          refine wpAnyH_ready (rs := [7]) (by kernel_rfl) (by simp) ?_
          refine AllReadyH.cons (o := ⟨_, _, _, _, _, _⟩) rfl (fun K hK => ?_) AllReadyH.nil
          go_simp
          refine (key_any dk _).mono ?_
          rintro e w5 ⟨rfl, hb⟩
          have hS1 := (hb.block _ (lt_of_block hS)).trans hS
          go_wp2_with fail
          refine hK.out _ _ hS1 (fun hSd => ?_)
          clear hSd hK K hS
          try simp only [Act.put, List.setIfInBounds_toArray, List.set_cons_zero, List.set_cons_succ]
          have hS := hS1
          clear hS1
          have HB5 := Lib.hid hb
          clear hb
          refine wpAnyH_ready (rs := [8]) (by kernel_rfl) (by simp) ?_
          refine AllReadyH.cons (o := ⟨_, _, _, _, _, _⟩) rfl (fun K hK => ?_) AllReadyH.nil
          go_simp
          refine (rmDrop_any dk w5 (HRM4.out.later HB5.out) (HBL4.out.trans (HB5.out.mono HBL4.out.size)).size).mono ?_
          rintro e w6 ⟨rfl, kv1, lv1, hrm6, hkr⟩
          have hS1 := hkr.cells hS (by decide)
          have HD := Lib.hid (show DoT w w6 p q nm km em r room next peak (k + 1) (dropK L dk) (dropK D dk) kv1 lv1 g1 g2 ∧ Bk what dk is en far tree tou at1 ak1 ct ck g1 g2 Z Y w6 from by
            refine ⟨⟨⟨base, HBS.out, @MeIs.keepR (inW g1 g2) _ _ _ _ _ _ _ _ _ _ _ _ _ (@MeIs.later (inW g1 g2) _ _ _ _ _ _ _ _ _ _ _ _ HM4.out HB5.out) hkr⟩, hrm6, plR_drop2 HPL.out dk, ?_, ?_, ?_, ?_, ?_⟩, (HK4.out.later HB5.out).keepR hkr⟩
            · have := HNX.out.1
              omega
            · have h1 := HNX.out.2
              have h2 := (show (dropK L dk).length ≤ L.length from List.length_filter_le _ _)
              omega
            · exact fun a ha => HSZ.out a (mem_dropK.1 ha).1
            · exact fun a ha => HEN.out a (mem_dropK.1 ha).1
            · have h1 := HBL4.out.trans (HB5.out.mono HBL4.out.size)
              exact h1.trans (hkr.below h1.size))
          go_wp2_with fail
          refine hK.out _ _ hS1 (fun hSd => ?_)
          clear hSd hK K hS
          try simp only [Act.put, List.setIfInBounds_toArray, List.set_cons_zero, List.set_cons_succ]
          have hS := hS1
          clear hS1 hrm6 hkr
          rw [plR_has HPL.out]
          generalize hasK L dk = hbo
          have hbb : (hbo != hbo) = false := by simp
          refine wpAnyH_take (i := 9) (oi := ⟨_, _, _, _, _, _⟩) (v := ?v22) rfl (by kernel_rfl) (by kernel_rfl) (by kernel_rfl) (fun _ _ _ h => h) ?y22 hS ?_
          case y22 => first | (refine Or.inr ⟨by rfl, ?_⟩; with_reducible rfl) | (refine Or.inl ⟨by rfl, ?_⟩; intro wS hSw; go_simp; try with_reducible rfl)
          simp only [Act.put, List.setIfInBounds_toArray, List.set_cons_zero, List.set_cons_succ]
          refine wpAnyH_done (by kernel_rfl) ?_ _
          clear hS
          go_wp2
          go_meet
          exact ⟨p, q, nm, km, em, next, peak, dropK L dk, dropK D dk, kv1, lv1, rfl, HD⟩
        · go_upto_region 22 with (fail)
          refine wp_region_held_drew (S := fun z => z.heap[Z]? = some (.cells #[.int .i64 what, .int .i64 dk.rule, .int .i64 dk.level, .int .i64 dk.place, .bool is, .int .i64 en, .int .i64 far, .slice at1 tree.length ct, .slice ak1 tou.length ck] 33 (0, 0))) (by kernel_rfl) (show u3.drew.heap[Z]? = _ from HK.out.z) (fun hS => ?_)
          refine wpAnyH_take (i := 0) (oi := ⟨_, _, _, _, _, _⟩) (v := ?v23) rfl (by kernel_rfl) (by kernel_rfl) (by kernel_rfl) (fun _ _ _ h => h) ?y23 hS ?_
          case y23 => first | (refine Or.inr ⟨by rfl, ?_⟩; with_reducible rfl) | (refine Or.inl ⟨by rfl, ?_⟩; intro wS hSw; obtain ⟨z0, z1, z2, z3, z4, z5, z6, z7, z8⟩ := nine_box hSw; go_simp; try with_reducible rfl)
          simp only [Act.put, List.setIfInBounds_toArray, List.set_cons_zero, List.set_cons_succ]
          refine wpAnyH_take (i := 1) (oi := ⟨_, _, _, _, _, _⟩) (v := ?v24) rfl (by kernel_rfl) (by kernel_rfl) (by kernel_rfl) (fun _ _ _ h => h) ?y24 hS ?_
          case y24 => first | (refine Or.inr ⟨by rfl, ?_⟩; with_reducible rfl) | (refine Or.inl ⟨by rfl, ?_⟩; intro wS hSw; obtain ⟨z0, z1, z2, z3, z4, z5, z6, z7, z8⟩ := nine_box hSw; go_simp; try with_reducible rfl)
          simp only [Act.put, List.setIfInBounds_toArray, List.set_cons_zero, List.set_cons_succ]
          refine wpAnyH_take (i := 2) (oi := ⟨_, _, _, _, _, _⟩) (v := ?v25) rfl (by kernel_rfl) (by kernel_rfl) (by kernel_rfl) (fun _ _ _ h => h) ?y25 hS ?_
          case y25 => first | (refine Or.inr ⟨by rfl, ?_⟩; with_reducible rfl) | (refine Or.inl ⟨by rfl, ?_⟩; intro wS hSw; obtain ⟨z0, z1, z2, z3, z4, z5, z6, z7, z8⟩ := nine_box hSw; go_simp; try with_reducible rfl)
          simp only [Act.put, List.setIfInBounds_toArray, List.set_cons_zero, List.set_cons_succ]
          refine wpAnyH_take (i := 3) (oi := ⟨_, _, _, _, _, _⟩) (v := ?v26) rfl (by kernel_rfl) (by kernel_rfl) (by kernel_rfl) (fun _ _ _ h => h) ?y26 hS ?_
          case y26 => first | (refine Or.inr ⟨by rfl, ?_⟩; with_reducible rfl) | (refine Or.inl ⟨by rfl, ?_⟩; intro wS hSw; obtain ⟨z0, z1, z2, z3, z4, z5, z6, z7, z8⟩ := nine_box hSw; go_simp; try with_reducible rfl)
          simp only [Act.put, List.setIfInBounds_toArray, List.set_cons_zero, List.set_cons_succ]
          refine wpAnyH_take (i := 5) (oi := ⟨_, _, _, _, _, _⟩) (v := ?v27) rfl (by kernel_rfl) (by kernel_rfl) (by kernel_rfl) (fun _ _ _ h => h) ?y27 hS ?_
          case y27 => first | (refine Or.inr ⟨by rfl, ?_⟩; with_reducible rfl) | (refine Or.inl ⟨by rfl, ?_⟩; intro wS hSw; obtain ⟨z0, z1, z2, z3, z4, z5, z6, z7, z8⟩ := nine_box hSw; go_simp; try with_reducible rfl)
          simp only [Act.put, List.setIfInBounds_toArray, List.set_cons_zero, List.set_cons_succ]
          refine wpAnyH_take (i := 6) (oi := ⟨_, _, _, _, _, _⟩) (v := ?v28) rfl (by kernel_rfl) (by kernel_rfl) (by kernel_rfl) (fun _ _ _ h => h) ?y28 hS ?_
          case y28 => first | (refine Or.inr ⟨by rfl, ?_⟩; with_reducible rfl) | (refine Or.inl ⟨by rfl, ?_⟩; intro wS hSw; obtain ⟨z0, z1, z2, z3, z4, z5, z6, z7, z8⟩ := nine_box hSw; go_simp; try with_reducible rfl)
          simp only [Act.put, List.setIfInBounds_toArray, List.set_cons_zero, List.set_cons_succ]
          refine wpAnyH_take (i := 7) (oi := ⟨_, _, _, _, _, _⟩) (v := ?v29) rfl (by kernel_rfl) (by kernel_rfl) (by kernel_rfl) (fun _ _ _ h => h) ?y29 hS ?_
          case y29 => first | (refine Or.inr ⟨by rfl, ?_⟩; with_reducible rfl) | (refine Or.inl ⟨by rfl, ?_⟩; intro wS hSw; obtain ⟨z0, z1, z2, z3, z4, z5, z6, z7, z8⟩ := nine_box hSw; go_simp; try with_reducible rfl)
          simp only [Act.put, List.setIfInBounds_toArray, List.set_cons_zero, List.set_cons_succ]
          refine wpAnyH_take (i := 8) (oi := ⟨_, _, _, _, _, _⟩) (v := ?v30) rfl (by kernel_rfl) (by kernel_rfl) (by kernel_rfl) (fun _ _ _ h => h) ?y30 hS ?_
          case y30 => first | (refine Or.inr ⟨by rfl, ?_⟩; with_reducible rfl) | (refine Or.inl ⟨by rfl, ?_⟩; intro wS hSw; obtain ⟨z0, z1, z2, z3, z4, z5, z6, z7, z8⟩ := nine_box hSw; go_simp; try with_reducible rfl)
          simp only [Act.put, List.setIfInBounds_toArray, List.set_cons_zero, List.set_cons_succ]
          refine wpAnyH_ready (rs := [4]) (by kernel_rfl) (by simp) ?_
          refine AllReadyH.cons (o := ⟨_, _, _, _, _, _⟩) rfl (fun K hK => ?_) AllReadyH.nil
          go_simp
          refine (@mClear_any (inW g1 g2) base p q nm km em next room peak L dk.place _ (@MeIs.later (inW g1 g2) _ _ _ _ _ _ _ _ _ _ _ _ HME.out (Below.refl _ u3).drew)).mono ?_
          rintro e w4 ⟨rfl, hm1, hkp⟩
          have hS1 := @KeepM.cells (inW g1 g2) _ _ _ hkp _ _ _ _ hS (by decide)
          have hd3 := (Below.refl u3.heap.size u3).drew
          have HK4 := Lib.hid ((HK.out.later hd3).keepM hkp)
          have HM4 := Lib.hid hm1
          have HRM4 := Lib.hid (@Rm.keepM (inW g1 g2) _ _ _ _ _ _ _ _ _ _ (HRM.out.later hd3) hkp)
          have HBL4 := Lib.hid ((HBL.out.trans (hd3.mono HBL.out.size)).trans ((@KeepM.below (inW g1 g2) _ _ _ hkp HBB.out).mono HBS.out))
          clear hd3 hm1 hkp
          go_wp2_with fail
          refine hK.out _ _ hS1 (fun hSd => ?_)
          clear hSd hK K hS
          try simp only [Act.put, List.setIfInBounds_toArray, List.set_cons_zero, List.set_cons_succ]
          have hS := hS1
          clear hS1
          have HB5 := Lib.hid (Below.refl w4.heap.size w4)
          refine wpAnyH_ready (rs := [9]) (by kernel_rfl) (by simp) ?_
          refine AllReadyH.cons (o := ⟨_, _, _, _, _, _⟩) rfl (fun K hK => ?_) AllReadyH.nil
          go_simp
          refine (rmClear_any dk.place w4 HRM4.out HBL4.out.size).mono ?_
          rintro e w6 ⟨rfl, kv1, lv1, hrm6, hkr⟩
          have hS1 := hkr.cells hS (by decide)
          have HD := Lib.hid (show DoT w w6 p q nm km em r room next peak (k + 1) (clrK L dk.place) (clrK D dk.place) kv1 lv1 g1 g2 ∧ Bk what dk is en far tree tou at1 ak1 ct ck g1 g2 Z Y w6 from by
            refine ⟨⟨⟨base, HBS.out, @MeIs.keepR (inW g1 g2) _ _ _ _ _ _ _ _ _ _ _ _ _ (@MeIs.later (inW g1 g2) _ _ _ _ _ _ _ _ _ _ _ _ HM4.out HB5.out) hkr⟩, hrm6, plR_clr2 HPL.out _, ?_, ?_, ?_, ?_, ?_⟩, (HK4.out.later HB5.out).keepR hkr⟩
            · have := HNX.out.1
              omega
            · have h1 := HNX.out.2
              have h2 := clr_len_le L dk.place
              omega
            · exact fun a ha => HSZ.out a (List.mem_filter.1 ha).1
            · exact fun a ha => HEN.out a (List.mem_filter.1 ha).1
            · have h1 := HBL4.out.trans (HB5.out.mono HBL4.out.size)
              exact h1.trans (hkr.below h1.size))
          go_wp2_with fail
          refine hK.out _ _ hS1 (fun hSd => ?_)
          clear hSd hK K hS
          try simp only [Act.put, List.setIfInBounds_toArray, List.set_cons_zero, List.set_cons_succ]
          have hS := hS1
          clear hS1 hrm6 hkr
          have hcc : ((D.length - (clrK D dk.place).length : Nat) : Int) = (L.length : Int) - (clrK L dk.place).length := by
            have h1 := HLD.out
            have h2 := plR_len (plR_clr2 HPL.out dk.place)
            have h3 := clr_len_le D dk.place
            omega
          rw [hcc]
          generalize ((L.length : Int) - (clrK L dk.place).length) = cnt
          clear hcc
          have hbb : (cnt != cnt) = false := by simp
          refine wpAnyH_take (i := 10) (oi := ⟨_, _, _, _, _, _⟩) (v := ?v31) rfl (by kernel_rfl) (by kernel_rfl) (by kernel_rfl) (fun _ _ _ h => h) ?y31 hS ?_
          case y31 => first | (refine Or.inr ⟨by rfl, ?_⟩; with_reducible rfl) | (refine Or.inl ⟨by rfl, ?_⟩; intro wS hSw; go_simp; try with_reducible rfl)
          simp only [Act.put, List.setIfInBounds_toArray, List.set_cons_zero, List.set_cons_succ]
          refine wpAnyH_done (by kernel_rfl) ?_ _
          clear hS
          go_wp2
          go_meet
          exact ⟨p, q, nm, km, em, next, peak, clrK L dk.place, clrK D dk.place, kv1, lv1, rfl, HD⟩
        · go_wp2_with fail
          refine (@mCopyW_any (inW g1 g2) base p q nm km em next room peak L u3 HME.out HSZ.out).mono ?_
          rintro e w4 ⟨p1, q1, nm1, km1, em1, L1, rfl, hpl2, hm2, hb4⟩
          have hmo := @MeIs.rewatch (inW g1 g2) _ _ _ _ _ _ _ _ _ _ _ _ HME.out hb4 (cpB u3.heap.size w4.heap.size) (fun k hk => .inr hk.1) (Nat.le_refl _)
          have HMo := Lib.hid hmo
          have HM2 := Lib.hid hm2
          have HP2 := Lib.hid hpl2
          have HK4 := Lib.hid (HK.out.later hb4)
          have HRM4 := Lib.hid (HRM.out.later hb4)
          have HBL4 := Lib.hid (HBL.out.trans (hb4.mono HBL.out.size))
          have HBB4 := Lib.hid (Nat.le_trans HBB.out hb4.size)
          clear hmo hm2 hpl2 hb4
          obtain ⟨z0, z1, z2, z3, z4, z5, z6, z7, z8⟩ := nine_box HK4.out.z
          obtain ⟨⟨y0, y1, y2, y3, y4⟩, -⟩ := five_box HK4.out.y
          go_wp2_with fail
          refine (@mPutX_any (cpB u3.heap.size w4.heap.size) base p q nm km em next room peak L dk ⟨is, en, far, tree, tou, .slice (some ⟨g1, 0, none⟩) tree.length (tree.length + 12), .slice (some ⟨g2, 0, none⟩) tou.length (tou.length + 12)⟩ w4 HMo.out HDk.out (HK4.out.t1.own HL1.out) (HK4.out.t2.own HL2.out) HL1.out HL2.out (by have := HNX.out.1; omega)).mono ?_
          rintro e w5 ⟨gv, G, err, n1, pk1, Lo, rfl, -, -, hm5, hk5⟩
          have HM5 := Lib.hid hm5
          have HK5 := Lib.hid hk5
          have HZ5 := Lib.hid (HK4.out.keepM hk5)
          clear hm5 hk5 z0 z1 z2 z3 z4 z5 z6 z7 z8 y0 y1 y2 y3 y4
          obtain ⟨z0, z1, z2, z3, z4, z5, z6, z7, z8⟩ := nine_box HZ5.out.z
          go_wp2_with fail
          refine (@mClear_any (cpB u3.heap.size w4.heap.size) base p q nm km em n1 room pk1 Lo dk.place w5 HM5.out).mono ?_
          rintro e w6 ⟨rfl, -, hk6⟩
          have HD := Lib.hid (show DoT w w6 p1 q1 nm1 km1 em1 r room next peak (k + 1) L1 D kv lv g1 g2 ∧ Bk what dk is en far tree tou at1 ak1 ct ck g1 g2 Z Y w6 from by
            have hkk := @KeepM.trans (cpB u3.heap.size w4.heap.size) _ _ _ _ HK5.out hk6
            have hm6 := @MeIs.watched (oldW u3.heap.size) _ _ _ _ _ _ _ _ _ _ _ _ _ HM2.out (cpB u3.heap.size w4.heap.size) hkk (fun k h1 h2 => ⟨h1, h2⟩)
            refine ⟨⟨⟨u3.heap.size, HBL.out.size, @MeIs.rewatch (oldW u3.heap.size) _ _ _ _ _ _ _ _ _ _ _ _ hm6 (Below.refl _ _) (inW g1 g2) (fun k hk => .inl ?_) ?_⟩, @Rm.keepM (cpB u3.heap.size w4.heap.size) _ _ _ _ _ _ _ _ _ _ HRM4.out hkk, by rw [HP2.out]; exact HPL.out, ?_, ?_, plR_sz HP2.out HSZ.out, HEN.out, ?_⟩, HK4.out.keepM hkk⟩
            · have := HGl.out
              show k < _
              rcases hk with hk | hk <;> omega
            · have h1 := HGl.out
              have h2 := hkk.size
              have h3 := HBL4.out.size
              have h4 := lt_of_block (show w6.heap[g1]? = _ from (HK4.out.keepM hkk).t1)
              have h5 := lt_of_block (show w6.heap[g2]? = _ from (HK4.out.keepM hkk).t2)
              show max g1 g2 + 1 ≤ _
              omega
            · have := HNX.out.1
              omega
            · rw [plR_len HP2.out]; exact HNX.out.2
            · exact HBL4.out.trans ((@KeepM.below (cpB u3.heap.size w4.heap.size) _ _ _ hkk HBB4.out).mono HBS.out))
          clear hk6 z0 z1 z2 z3 z4 z5 z6 z7 z8
          go_wp2
          go_meet
          exact ⟨p1, q1, nm1, km1, em1, next, peak, L1, D, kv, lv, rfl, HD⟩
      case rest =>
        obtain ⟨p, q, nm, km, em, next, peak, L, D, kv, lv, rfl, HC⟩ := hcut
        clear HT HK
        obtain ⟨z0, z1, z2, z3, z4, z5, z6, z7, z8⟩ := nine_box HC.out.2.z
        obtain ⟨⟨y0, y1, y2, y3, y4⟩, -⟩ := five_box HC.out.2.y
        go_wp2_with fail
        refine (kept_any ⟨is, en, far, tree, tou, .slice at1 tree.length ct, .slice ak1 tou.length ck⟩ g1 g2 wc (HTa.out.later HC.out.1.bel) (HIa.out.later HC.out.1.bel) HC.out.2.t1 HC.out.2.t2 HL1.out HL2.out).mono ?_
        rintro e w1 ⟨rfl, hb1⟩
        replace HC := Lib.hid (And.intro (HC.out.1.later hb1) (HC.out.2.later hb1))
        clear hb1 z0 z1 z2 z3 z4 z5 z6 z7 z8 y0 y1 y2 y3 y4
        obtain ⟨⟨y0, y1, y2, y3, y4⟩, -⟩ := five_box HC.out.2.y
        go_wp2_with fail
        refine (over_any (B := 0) ⟨is, en, far, tree, tou, .slice (some ⟨g1, 0, none⟩) tree.length (tree.length + 12), .slice (some ⟨g2, 0, none⟩) tou.length (tou.length + 12)⟩ w1 (HC.out.2.t1.own HL1.out) (HC.out.2.t2.own HL2.out) HL1.out HL2.out).mono ?_
        rintro e w2 ⟨rfl, hk2⟩
        have hk3 : Keeps (fun k => k = g1 ∨ k = g2) w1 w2 := Keeps.mono hk2 fun k _ hs => by
          simp only [Value.ownBlock, Option.some.injEq] at hs
          rcases hs with h | h
          · exact .inl h.symm
          · exact .inr h.symm
        have HD := Lib.hid (show DoS w w2 p q nm km em r room next peak (k + 1) L D kv lv from by
          obtain ⟨⟨base, hbs, hme⟩, hrm, hpl, hnx, hpk, hsz, hen, hbel⟩ := HC.out.1
          have hm2 := MeIs.keepW hme hk3 (fun k hs => hs)
          refine ⟨⟨base, hbs, @MeIs.rewatch (inW g1 g2) _ _ _ _ _ _ _ _ _ _ _ _ hm2 (Below.refl _ _) noWatch (fun k hk => hk.elim) (Nat.zero_le _)⟩, hrm.kept hk3 (fun k hs cs t hc => ?_), hpl, hnx, hpk, hsz, hen, hbel.trans (hk3.below hbel.size (fun k hs => ?_))⟩
          · rcases hs with rfl | rfl
            · rw [show w1.heap[k]? = _ from HC.out.2.t1] at hc
              simp only [Option.some.injEq, Obj.cells.injEq] at hc
              rw [← hc.2.1]
              decide
            · rw [show w1.heap[k]? = _ from HC.out.2.t2] at hc
              simp only [Option.some.injEq, Obj.cells.injEq] at hc
              rw [← hc.2.1]
              decide
          · have := HGw.out
            rcases hs with hs | hs <;> omega)
        have hz := hk3.obj HC.out.2.z (fun hs => by
          rcases hs with hs | hs
          · have h1 := HC.out.2.z
            rw [hs, show w1.heap[g1]? = _ from HC.out.2.t1] at h1
            simp at h1
          · have h1 := HC.out.2.z
            rw [hs, show w1.heap[g2]? = _ from HC.out.2.t2] at h1
            simp at h1)
        clear hk2 hk3 HC y0 y1 y2 y3 y4
        obtain ⟨z0, z1, z2, z3, z4, z5, z6, z7, z8⟩ := nine_box hz
        clear hz
        obtain ⟨base, hbs, hme⟩ := HD.out.me
        have HME := Lib.hid hme
        clear hme hbs
        go_wp2_with fail
        refine (@same_any noWatch _ _ _ _ _ _ _ _ _ _ _ _ _ _ _ _ dk w2 HME.out HD.out.rm HD.out.pl HDk.out HD.out.sz (fun a ha => ⟨(HD.out.en a ha).1.later HD.out.bel, (HD.out.en a ha).2.later HD.out.bel⟩)).mono ?_
        rintro e w3 ⟨rfl, hb3⟩
        replace HD := Lib.hid (HD.out.later hb3)
        clear hb3 z0 z1 z2 z3 z4 z5 z6 z7 z8 HME
        go_wp2
        go_roundw
        case rel =>
          exact ⟨k + 1, p, q, nm, km, em, next, peak, L, D, kv, lv, by omega, rfl, by go_num, HD⟩
        case measure => simp [intOf]; omega
    · have hlt2 : ¬ (k : Int) < n := by omega
      go_wp2_with fail
      refine (HAw.out wr).mono ?_
      rintro e w1 ⟨rfl, hb⟩
      have HB := Lib.hid (HSt.out.bel.trans (hb.mono HSt.out.bel.size))
      clear hb
      go_wp2
      go_ret
      exact ⟨rfl, HB.out⟩
    end Go.Proofs.YtpchjpmkkiopiaaGreat
