import Derived.Test.YtadkjjpopmiceaaGreatTtbm
import Derived.Test.YtadkjjpopmiceaaGreatOvrm
namespace Go.Proofs.YtadkjjpopmiceaaGreat
open Go.RowKit Go.Lib

theorem parV_tup (l : List Tw) (n : Int) : ∃ (p : Int) (b : Bool), parV l n = .tuple #[.int .i64 p, .bool b] := by
  unfold parV
  split
  · split
    · exact ⟨_, _, rfl⟩
    · exact ⟨_, _, rfl⟩
  · exact ⟨_, _, rfl⟩
theorem subR_len {l : List Tw} (n : Int) : (subR l n).length = sizR l n := by
  unfold subR
  by_cases h : hasR l n = true
  · rw [if_pos h]
    obtain ⟨k, rfl, hk, hr⟩ := hasR_at h
    obtain ⟨m, ks, hs⟩ := ((rightB_iff l).1 hr).sub hk
    have := hs.lt
    rw [sizR_at h hs, Int.toNat_natCast]
    simp
    omega
  · rw [if_neg h]
    unfold sizR
    rw [if_neg h]
    rfl
/-- what stands while the law runs: the lent row, the four that were told. -/
structure Tt (W0 wk : World) (g : Nat) (l : List Tw) (n pl : Int) (a b c d : Value) : Prop where
  bl : Below W0.heap.size W0 wk
  ln : TLentAt wk g l
  gb : W0.heap.size ≤ g
  oa : OwnN W0.heap.size wk a (topR l)
  ob : OwnN W0.heap.size wk b (pathR l pl)
  oc : TwOwn W0.heap.size wk c (plainL l)
  od : OwnN W0.heap.size wk d (kidsR l n)
  ab : ∀ k, a.ownBlock = some k → b.ownBlock ≠ some k
  ad : ∀ k, a.ownBlock = some k → d.ownBlock ≠ some k
  bd : ∀ k, b.ownBlock = some k → d.ownBlock ≠ some k
  cg : c.ownBlock ≠ some g
theorem Tt.later {W0 wk wk' : World} {g : Nat} {l : List Tw} {n pl : Int} {a b c d : Value} (h : Tt W0 wk g l n pl a b c d) (hb : Below wk.heap.size wk wk') : Tt W0 wk' g l n pl a b c d :=
  ⟨h.bl.trans (hb.mono h.bl.size), h.ln.later hb, h.gb, h.oa.later hb, h.ob.later hb, h.oc.later hb, h.od.later hb, h.ab, h.ad, h.bd, h.cg⟩
/-- a block of another row is written. -/
theorem Tt.off {W0 wk wk' : World} {g : Nat} {l : List Tw} {n pl : Int} {a b c d : Value} (h : Tt W0 wk g l n pl a b c d) {x : Nat} (hk : Keeps (fun k => k = x) wk wk') (hx : W0.heap.size ≤ x) (h1 : x ≠ g) (ha : a.ownBlock ≠ some x) (hb : b.ownBlock ≠ some x) (hc : c.ownBlock ≠ some x) (hd : d.ownBlock ≠ some x) : Tt W0 wk' g l n pl a b c d := by
  refine ⟨h.bl.trans (hk.below h.bl.size (fun k e => by subst e; exact hx)), hk.obj h.ln (fun e => h1 e.symm), h.gb, ?_, ?_, ?_, ?_, h.ab, h.ad, h.bd, h.cg⟩
  · exact hk.row h.oa (fun k hk e => ha (e ▸ hk))
  · exact hk.row h.ob (fun k hk e => hb (e ▸ hk))
  · exact hk.row h.oc (fun k hk e => hc (e ▸ hk))
  · exact hk.row h.od (fun k hk e => hd (e ▸ hk))
theorem Tt.row {W0 wk : World} {g len : Nat} {l : List Tw} {n pl : Int} {a b c d : Value} (h : Tt W0 wk g l n pl a b c d) (hok : ∀ t ∈ l, twOk t) (hl : l.length ≤ 1000000) (he : len = l.length) : TwRow wk (.slice (some ⟨g, 0, none⟩) len (len + 12)) l := by
  subst he
  exact TwRow.mk (TLentAt.tw h.ln hl) hok hl
/-- blocks that are newer than a world in which all stood are written. -/
theorem Tt.new {W0 ws wk wk' : World} {g : Nat} {l : List Tw} {n pl : Int} {a b c d : Value} {S : Nat → Prop} (h0 : Tt W0 ws g l n pl a b c d) (h : Tt W0 wk g l n pl a b c d) (hk : Keeps S wk wk') (hS : ∀ k, S k → ws.heap.size ≤ k) : Tt W0 wk' g l n pl a b c d := by
  have hg := lt_of_block h0.ln
  have hc := (show World.ownsRow _ _ _ _ _ _ _ from h0.oc).lt
  refine ⟨h.bl.trans (hk.below h.bl.size (fun k e => Nat.le_trans h0.bl.size (hS k e))), hk.obj h.ln (fun e => by have := hS g e; omega), h.gb, ?_, ?_, ?_, ?_, h.ab, h.ad, h.bd, h.cg⟩
  · exact hk.row h.oa (fun k hk e => by have := (h0.oa.lt k hk).2; have := hS k e; omega)
  · exact hk.row h.ob (fun k hk e => by have := (h0.ob.lt k hk).2; have := hS k e; omega)
  · exact hk.row h.oc (fun k hk e => by have := (hc k hk).2; have := hS k e; omega)
  · exact hk.row h.od (fun k hk e => by have := (h0.od.lt k hk).2; have := hS k e; omega)
theorem overTw_any {B : Nat} {v : Value} {l : List Tw} (w : World) (h : TwOwn B w v l) (hl : l.length ≤ 1000000) :
    Calls Tryz.prog 26 #[v] w fun e w' => e = .returned (.tuple #[]) ∧ Keeps (fun k => v.ownBlock = some k) w w' := by
  unfold TwOwn at h
  rcases h.2 with ⟨rfl, -⟩ | ⟨g, cap, cur, rfl, -, hg, h1, h2, h3, -⟩
  · exact (overNil_any w).mono fun e w' hh => ⟨hh.1, Keeps.ofNew hh.2 _⟩
  · exact (overOwn_any l.length cap g _ cur w hg h3 h1 (by unfold maxLen at h2; omega) hl rfl).mono fun e w' hh => ⟨hh.1, hh.2.mono fun k _ e => by subst e; rfl⟩
set_option maxRecDepth 100000 in
set_option maxHeartbeats 8000000 in
theorem treeTells_main (HAp : ApartT) (v : Value) (l : List Tw) (n pl : Int) (w : World) (h : TwAt w v l) (hok : ∀ t ∈ l, twOk t) (hl0 : l.length ≤ 140737488355328) :
    Calls Tryz.prog 3 #[v, .int .i64 n, .int .i64 pl] w fun e w' => e = .returned (.bool true) ∧ Below w.heap.size w w' := by
  have HAw := Lib.hid (fun u => awake_any u)
  have H := Lib.hid h
  have HOk := Lib.hid hok
  obtain ⟨ao, cap, rfl⟩ := h.val
  have hcc := h.cells
  obtain ⟨-, hc1, hc2, -⟩ := hcc
  obtain ⟨len, hlen⟩ : ∃ len, len = l.length := ⟨_, rfl⟩
  have HLe := Lib.hid hlen
  rw [← hlen] at H hl0 hc1 ⊢
  clear h hok hlen
  by_cases h120 : len ≤ 120
  · have h120' : ¬ (120 : Int) < len := by omega
    have HV := Lib.hid (show ∀ u, Below w.heap.size w u → TwRow u (.slice ao len cap) l from fun u hu => TwRow.mk (H.out.later hu) HOk.out (by rw [← HLe.out]; omega))
    have HL := Lib.hid (lentTwigs_any _ l w H.out (by rw [← HLe.out]; omega))
    rw [← HLe.out] at HL
    go_enter Tryz.func3, Tryz.ntmps3
    go_wp2_with fail
    refine HL.out.mono ?_
    rintro e w1 ⟨rfl, hg, hb⟩
    obtain ⟨g, hge⟩ : ∃ g, g = w.heap.size := ⟨_, rfl⟩
    rw [← hge] at hg ⊢
    have HI := Lib.hid (show ∀ u, Below w1.heap.size w1 u → TwRow u (.slice (some ⟨g, 0, none⟩) len (len + 12)) l from fun u hu => by
      have h1 := (TLentAt.tw hg (by rw [← HLe.out]; omega)).later hu
      rw [← HLe.out] at h1
      exact TwRow.mk h1 HOk.out (by rw [← HLe.out]; omega))
    have HG1 := Lib.hid hg
    have HB1 := Lib.hid hb
    have HGe := Lib.hid hge
    clear hg hb hge HL
    go_wp2_with fail
    refine (right_any _ l w1 (HI.out w1 (Below.refl _ _)).at' HOk.out (by rw [← HLe.out]; omega)).mono ?_
    rintro e w2 ⟨rfl, hb⟩
    have HB2 := Lib.hid hb
    clear hb
    go_wp2_with fail
    refine (rRight_any _ l w2 (HV.out w2 (HB1.out.trans (HB2.out.mono HB1.out.size)))).mono ?_
    rintro e w3 ⟨rfl, hb⟩
    have HB3 := Lib.hid (HB2.out.trans (hb.mono HB2.out.size))
    clear hb HB2
    go_wp2_with fail
    refine (tHeight_any _ w3 (HI.out w3 HB3.out)).mono ?_
    rintro e w4 ⟨rfl, hb⟩
    have HB4 := Lib.hid (HB3.out.trans (hb.mono HB3.out.size))
    clear hb HB3
    go_wp2_with fail
    refine (rHeight_any _ l w4 (HV.out w4 (HB1.out.trans (HB4.out.mono HB1.out.size)))).mono ?_
    rintro e w5 ⟨rfl, hb⟩
    have HB5 := Lib.hid (HB4.out.trans (hb.mono HB4.out.size))
    clear hb HB4
    go_wp2_with fail
    refine (tRoots_any _ w5 (HI.out w5 HB5.out)).mono ?_
    rintro e w6 ⟨va, rfl, hoa, hb⟩
    have HA6 := Lib.hid hoa
    have HB6 := Lib.hid (HB5.out.trans (hb.mono HB5.out.size))
    have HS5 := Lib.hid hb.size
    clear hb hoa
    go_wp2_with fail
    refine (tPath_any _ pl w6 (HI.out w6 HB6.out)).mono ?_
    rintro e w7 ⟨vb, rfl, hob, hb⟩
    have HC7 := Lib.hid hob
    have HB7 := Lib.hid (HB6.out.trans (hb.mono HB6.out.size))
    have HA7 := Lib.hid (HA6.out.later hb)
    have HS6 := Lib.hid hb.size
    clear hb hob
    go_wp2_with fail
    refine (tPlain_any _ l w7 (HI.out w7 HB7.out).at' (by rw [← HLe.out]; omega)).mono ?_
    rintro e w8 ⟨vc, rfl, hoc, hb⟩
    have HP8 := Lib.hid hoc
    have HB8 := Lib.hid (HB7.out.trans (hb.mono HB7.out.size))
    have HA8 := Lib.hid (HA7.out.later hb)
    have HC8 := Lib.hid (HC7.out.later hb)
    have HS7 := Lib.hid hb.size
    clear hb hoc
    go_wp2_with fail
    refine (tKids_any _ n w8 (HI.out w8 HB8.out)).mono ?_
    rintro e w9 ⟨vd, rfl, hod, hb⟩
    have HT9 := Lib.hid (show Tt w w9 g l n pl va vb vc vd from by
      have hs1 := HB1.out.size
      have hs5 := HB5.out.size
      have hs6 := HS5.out
      have hs7 := HS6.out
      have hs8 := HS7.out
      refine ⟨(HB1.out.trans (HB8.out.mono HB1.out.size)).trans (hb.mono (by omega)), (HG1.out.later HB8.out).later hb, by rw [HGe.out]; exact Nat.le_refl _, (HA8.out.later hb).lift (by omega), (HC8.out.later hb).lift (by omega), ?_, hod.lift (by omega), fun k hk he => ?_, fun k hk he => ?_, fun k hk he => ?_, fun he => ?_⟩
      · exact ownsRow_base (HP8.out.later hb) (by omega)
      · have h1 := (HA6.out.lt k hk).2
        have h2 := (HC7.out.lt k he).1
        omega
      · have h1 := (HA6.out.lt k hk).2
        have h2 := (hod.lt k he).1
        omega
      · have h1 := (HC7.out.lt k hk).2
        have h2 := (hod.lt k he).1
        omega
      · have h1 := lt_of_block HG1.out
        have h2 := ((show World.ownsRow _ _ _ _ _ _ _ from HP8.out).lt _ he).1
        omega)
    clear hod hb HA6 HA7 HA8 HC7 HC8 HP8 HB5 HB6 HB7 HB8 HS5 HS6 HS7
    go_wp2_with fail
    refine (rTop_any _ l w9 (HV.out w9 HT9.out.bl)).mono ?_
    rintro e w10 ⟨vt, rfl, ho, hb⟩
    have HT10 := Lib.hid (HT9.out.later hb)
    have HN := Lib.hid ho.nm
    clear ho hb HT9
    go_wp2_with fail
    refine (sameInts_any _ _ _ w10 HT10.out.oa.nm HN.out).mono ?_
    rintro e w11 ⟨rfl, hb⟩
    have HT11 := Lib.hid (HT10.out.later hb)
    clear hb HN HT10
    go_wp2_with fail
    refine (rPath_any _ l pl w11 (HV.out w11 HT11.out.bl)).mono ?_
    rintro e w12 ⟨vt, rfl, ho, hb⟩
    have HT12 := Lib.hid (HT11.out.later hb)
    have HN := Lib.hid ho.nm
    clear ho hb HT11
    go_wp2_with fail
    refine (sameInts_any _ _ _ w12 HT12.out.ob.nm HN.out).mono ?_
    rintro e w13 ⟨rfl, hb⟩
    have HT13 := Lib.hid (HT12.out.later hb)
    clear hb HN HT12
    go_wp2_with fail
    refine (rPlain_any _ l w13 (HV.out w13 HT13.out.bl).at' (by rw [← HLe.out]; omega)).mono ?_
    rintro e w14 ⟨vt, rfl, ho, hb⟩
    have HT14 := Lib.hid (HT13.out.later hb)
    have HN := Lib.hid ho.tw
    clear ho hb HT13
    go_wp2_with fail
    refine (sameTwigs_any _ _ _ w14 HT14.out.oc.tw HN.out).mono ?_
    rintro e w15 ⟨rfl, hb⟩
    have HT15 := Lib.hid (HT14.out.later hb)
    clear hb HN HT14
    go_wp2_with fail
    refine (rKids_any _ l n w15 (HV.out w15 HT15.out.bl)).mono ?_
    rintro e w16 ⟨vt, rfl, ho, hb⟩
    have HT16 := Lib.hid (HT15.out.later hb)
    have HN := Lib.hid ho.nm
    clear ho hb HT15
    go_wp2_with fail
    refine (sameInts_any _ _ _ w16 HT16.out.od.nm HN.out).mono ?_
    rintro e w17 ⟨rfl, hb⟩
    have HT17 := Lib.hid (HT16.out.later hb)
    clear hb HN HT16
    clear HI
    go_wp2
    go_loopw [12] (fun i wr => ∃ j : Nat, i = .int .i64 ((j : Int) - 1) ∧ j ≤ len + 3 ∧ Hid (Tt w wr g l n pl va vb vc vd)) (fun i _ => len + 10 - (intOf i + 1).toNat)
    case atStart => exact ⟨0, by go_num, by omega, HT17⟩
    case round =>
      clear HT17
      obtain ⟨j, rfl, hj, HT⟩ := hrel
      obtain ⟨kk, hkk⟩ : ∃ kk : Int, kk = (j : Int) - 1 := ⟨_, rfl⟩
      rw [← hkk]
      have HK := Lib.hid hkk
      have hk1 : kk ≤ 1000 := by omega
      have hk0 : -1 ≤ kk := by omega
      clear hkk
      by_cases hlt : kk < (len : Int) + 2
      · go_upto_region 12 with (fail)
        go_upto_if 87 with (fail)
        go_cut [13] (fun y w1 => ∃ m : Int, y = .int .i64 m ∧ wr = w1)
        case first =>
          by_cases hgt : (len : Int) < kk
          · go_wp2
            go_meet
            exact ⟨n, rfl, rfl⟩
          · go_wp2
            go_meet
            exact ⟨kk, rfl, rfl⟩
        case rest =>
          obtain ⟨m, rfl, rfl⟩ := hcut
          have HRo := Lib.hid (show ∀ u, Tt w u g l n pl va vb vc vd → TwRow u (.slice (some ⟨g, 0, none⟩) len (len + 12)) l from fun u hu => hu.row HOk.out (by rw [← HLe.out]; omega) HLe.out)
          obtain ⟨p, b, hp⟩ := parV_tup l m
          have h1 := tParent_any _ m wr (HRo.out wr HT.out)
          rw [hp] at h1
          have HP := Lib.hid hp
          have HQ1 := Lib.hid h1
          clear h1 hp
          go_wp2_with fail
          refine HQ1.out.mono ?_
          rintro e u1 ⟨rfl, hb⟩
          have HT1 := Lib.hid (HT.out.later hb)
          have h2 := rParent_any _ l m u1 (HV.out u1 HT1.out.bl)
          rw [HP.out] at h2
          have HQ2 := Lib.hid h2
          clear h2 hb HT HQ1
          go_wp2_with fail
          refine HQ2.out.mono ?_
          rintro e u2 ⟨rfl, hb⟩
          have HT2 := Lib.hid (HT1.out.later hb)
          obtain ⟨z, hz⟩ : ∃ z, z = sizR l m := ⟨_, rfl⟩
          have HZ := Lib.hid hz
          have h3 := rSize_any _ l m u2 (HV.out u2 HT2.out.bl)
          rw [← hz] at h3
          have HQ3 := Lib.hid h3
          clear h3 hb hz HT1 HQ2
          go_wp2_with fail
          refine HQ3.out.mono ?_
          rintro e u3 ⟨rfl, hb⟩
          have HT3 := Lib.hid (HT2.out.later hb)
          have HQ4 := Lib.hid (tSub_any _ l m u3 (HRo.out u3 HT3.out))
          clear hb HT2 HQ3
          go_wp2_with fail
          refine HQ4.out.mono ?_
          rintro e u4 ⟨vs, rfl, ho, hb⟩
          have HT4 := Lib.hid (HT3.out.later hb)
          have HS4 := Lib.hid ho
          have hv := ho
          unfold TwOwn at hv
          rw [subR_len, ← HZ.out] at hv
          obtain ⟨sa, sc, rfl⟩ := own_val hv
          have h5 := tSize_any _ m u4 (HRo.out u4 HT4.out)
          rw [← HZ.out] at h5
          have HQ5 := Lib.hid h5
          clear ho hb hv h5 HQ4
          go_wp2_with fail
          refine HQ5.out.mono ?_
          rintro e u5 ⟨rfl, hb⟩
          have HT5 := Lib.hid (HT4.out.later hb)
          have HS5 := Lib.hid (HS4.out.later hb)
          clear hb HQ5 HT4 HS4
          have hzl : z ≤ 1000 := by
            rw [HZ.out]
            unfold sizR
            split
            · rename_i hh
              obtain ⟨kq, hq1, hq2, hr⟩ := hasR_at hh
              obtain ⟨m', ks, hs⟩ := ((rightB_iff l).1 hr).sub hq2
              have := hs.lt
              have := HLe.out
              rw [hq1, Int.toNat_natCast, hs.aN]
              omega
            · omega
          by_cases hz0 : 0 < z
          · have hz0' : (0 : Int) < z := by omega
            have hh : hasR l m = true := by
              cases hh : hasR l m with
              | true => rfl
              | false => have := HZ.out; unfold sizR at this; rw [hh] at this; simp at this; omega
            obtain ⟨kq, rfl, hq2, hr⟩ := hasR_at hh
            obtain ⟨m2, ks, hs⟩ := ((rightB_iff l).1 hr).sub hq2
            have hlt2 := hs.lt
            have hsz := HZ.out
            rw [sizR_at hh hs] at hsz
            have HSu := Lib.hid (show subR l kq = (l.drop kq).take (m2 - kq) from by unfold subR; rw [if_pos hh, sizR_at hh hs, Int.toNat_natCast])
            obtain ⟨hl1, hl2⟩ := hlt2
            rw [← HLe.out] at hl2
            have hsum : (kq : Int) + z = (m2 : Int) := by omega
            have hvr := HV.out u5 HT5.out.bl
            obtain ⟨tb, toff, rfl, -, -⟩ := hvr.at'.cells.2.2.2.2 kq hq2
            have HPt := Lib.hid (hvr.at'.part (i := kq) (j := m2) (c := cap - kq) hl1 hl2 ⟨by omega, by omega⟩)
            have g1 : (kq : Int) ≤ m2 := by omega
            have g2 : (m2 : Int) ≤ cap := by omega
            have g3 : (m2 : Int) ≤ len := by omega
            have g4 : ¬ cap - kq = 0 := by omega
            have g5 : (0 : Int) ≤ kq := by omega
            have hkb : (kq : Int) ≤ 1000 := by omega
            clear hh hr hs hvr hsz
            go_wp2_with fail
            refine (sameTwigs_any _ _ (subR l kq) u5 HS5.out.tw (by rw [HSu.out]; exact HPt.out)).mono ?_
            rintro e u6 ⟨rfl, hb⟩
            have HT6 := Lib.hid (HT5.out.later hb)
            have HS6 := Lib.hid (HS5.out.later hb)
            clear hb HPt HT5 HS5
            have HQ6 := Lib.hid (tKids_any _ (kq : Int) u6 (HRo.out u6 HT6.out))
            go_wp2_with fail
            refine HQ6.out.mono ?_
            rintro e u7 ⟨vk, rfl, ho, hb⟩
            have HT7 := Lib.hid (HT6.out.later hb)
            have HS7 := Lib.hid (HS6.out.later hb)
            have HN7 := Lib.hid ho.nm
            have HQ7 := Lib.hid (rKids_any _ l (kq : Int) u7 (HV.out u7 HT7.out.bl))
            clear ho hb HQ6 HT6 HS6
            go_wp2_with fail
            refine HQ7.out.mono ?_
            rintro e u8 ⟨vk2, rfl, ho, hb⟩
            have HT8 := Lib.hid (HT7.out.later hb)
            have HS8 := Lib.hid (HS7.out.later hb)
            have HN8 := Lib.hid (HN7.out.later hb)
            have HM8 := Lib.hid ho.nm
            clear ho hb HQ7 HT7 HS7 HN7
            go_wp2_with fail
            refine (sameInts_any _ _ _ u8 HN8.out HM8.out).mono ?_
            rintro e u9 ⟨rfl, hb⟩
            have HT9 := Lib.hid (HT8.out.later hb)
            have HS9 := Lib.hid (HS8.out.later hb)
            clear hb HT8 HS8 HN8 HM8
            go_wp2_with fail
            refine (overTw_any u9 HS9.out (by rw [subR_len, ← HZ.out]; omega)).mono ?_
            rintro e u10 ⟨rfl, hk⟩
            have HT10 := Lib.hid (HT3.out.new HT9.out hk (fun b hb => ((show World.ownsRow _ _ _ _ _ _ _ from HS9.out).lt b hb).1))
            clear hk HT9 HS9
            go_wp2
            go_roundw
            case rel => exact ⟨j + 1, by rw [HK.out]; go_num, by have := HK.out; omega, HT10⟩
            case measure => have := HK.out; simp [intOf]; omega
          · have hz0' : ¬ (0 : Int) < z := by omega
            have HQ6 := Lib.hid (tKids_any _ m u5 (HRo.out u5 HT5.out))
            go_wp2_with fail
            refine HQ6.out.mono ?_
            rintro e u7 ⟨vk, rfl, ho, hb⟩
            have HT7 := Lib.hid (HT5.out.later hb)
            have HS7 := Lib.hid (HS5.out.later hb)
            have HN7 := Lib.hid ho.nm
            have HQ7 := Lib.hid (rKids_any _ l m u7 (HV.out u7 HT7.out.bl))
            clear ho hb HQ6 HT5 HS5
            go_wp2_with fail
            refine HQ7.out.mono ?_
            rintro e u8 ⟨vk2, rfl, ho, hb⟩
            have HT8 := Lib.hid (HT7.out.later hb)
            have HS8 := Lib.hid (HS7.out.later hb)
            have HN8 := Lib.hid (HN7.out.later hb)
            have HM8 := Lib.hid ho.nm
            clear ho hb HQ7 HT7 HS7 HN7
            go_wp2_with fail
            refine (sameInts_any _ _ _ u8 HN8.out HM8.out).mono ?_
            rintro e u9 ⟨rfl, hb⟩
            have HT9 := Lib.hid (HT8.out.later hb)
            have HS9 := Lib.hid (HS8.out.later hb)
            clear hb HT8 HS8 HN8 HM8
            go_wp2_with fail
            refine (overTw_any u9 HS9.out (by rw [subR_len, ← HZ.out]; omega)).mono ?_
            rintro e u10 ⟨rfl, hk⟩
            have HT10 := Lib.hid (HT3.out.new HT9.out hk (fun b hb => ((show World.ownsRow _ _ _ _ _ _ _ from HS9.out).lt b hb).1))
            clear hk HT9 HS9
            go_wp2
            go_roundw
            case rel => exact ⟨j + 1, by rw [HK.out]; go_num, by have := HK.out; omega, HT10⟩
            case measure => have := HK.out; simp [intOf]; omega
      · have hlt2 : ¬ kk < (len : Int) + 2 := hlt
        have HKe := Lib.hid (keptTwigs_any _ l g wr (HV.out wr HT.out.bl).at' HT.out.ln (by rw [← HLe.out]; omega))
        rw [← HLe.out] at HKe
        go_wp2_with fail
        refine HKe.out.mono ?_
        rintro e u1 ⟨rfl, hb⟩
        have HT1 := Lib.hid (HT.out.later hb)
        clear hb
        have HAp2 : Hid ApartT := Lib.hid (p := ApartT) @HAp
        have ha := HT1.out.oa
        have hb := HT1.out.ob
        have hd := HT1.out.od
        have hc := HT1.out.oc
        unfold OwnN at ha hb hd
        unfold TwOwn at hc
        obtain ⟨na, hna⟩ : ∃ na, na = (topR l).length := ⟨_, rfl⟩
        obtain ⟨nb, hnb⟩ : ∃ nb, nb = (pathR l pl).length := ⟨_, rfl⟩
        obtain ⟨nd, hnd⟩ : ∃ nd, nd = (kidsR l n).length := ⟨_, rfl⟩
        obtain ⟨nc, hnc⟩ : ∃ nc, nc = (plainL l).length := ⟨_, rfl⟩
        rw [← hna] at ha
        rw [← hnb] at hb
        rw [← hnd] at hd
        rw [← hnc] at hc
        obtain ⟨aa, ca, rfl⟩ := own_val ha
        obtain ⟨ab, cb, rfl⟩ := own_val hb
        obtain ⟨ad, cd, rfl⟩ := own_val hd
        obtain ⟨ac, cc, rfl⟩ := own_val hc
        clear ha hb hd hc hna hnb hnd hnc HAp HKe HT
        go_wp2_with fail
        obtain ⟨KC, hK1, hK2⟩ := own_watch (show World.ownsRow _ _ _ _ _ _ _ from HT1.out.oc)
        have hnew := one_new u1 (.cells #[.slice aa na ca, .slice ab nb cb, .slice ad nd cd] 27 (0, 0))
        have HT2 := HT1.out.later hnew.1
        have hgl : u1.heap[g]? = _ := HT1.out.ln
        have HFs := three_fs (K := (g, .cells (tvs (tmk l 12)).toArray 45 (0, 0)) :: KC) hnew.2 HT1.out.bl.size HT2.bl.size HT2.oa HT2.ob HT2.od HT2.ab HT2.ad HT2.bd (fun q hq => by
          have hlt : q.1 < u1.heap.size ∧ u1.heap[q.1]? = some q.2 ∧ ∃ cur, q.2 = .cells cur 45 (0, 0) := by
            rcases List.mem_cons.1 hq with rfl | hq
            · exact ⟨lt_of_block hgl, hgl, _, rfl⟩
            · obtain ⟨h1, -, h3⟩ := hK1 q hq
              exact ⟨lt_of_block h1, h1, h3⟩
          obtain ⟨h1, h2, cur, h3⟩ := hlt
          have h4 := (hnew.1.block _ h1).trans h2
          rw [h3] at h4
          refine ⟨by rw [h4, h3], by omega, ?_, ?_, ?_⟩
          · exact own_ne' h4 (by decide) HT2.oa
          · exact own_ne' h4 (by decide) HT2.ob
          · exact own_ne' h4 (by decide) HT2.od)
        have hl3 : l.length ≤ 1000000 := by rw [← HLe.out]; omega
        refine (apartI_any _ HFs (by omega) (fun j hj => ?_)).mono ?_
        · have h1 := topR_le l
          have h2 := pathR_le l pl
          have h3 := kidsR_le l n
          match j, hj with
          | 0, _ => exact Nat.le_trans h1 hl3
          | 1, _ => exact Nat.le_trans h2 hl3
          | 2, _ => exact Nat.le_trans h3 hl3
        rintro e u3 ⟨rfl, hb3, hkn⟩
        have HBl := Lib.hid (HT2.bl.trans hb3)
        have HLn := Lib.hid (show TLentAt u3 g l from hkn.out _ (List.mem_cons_self ..))
        have HC := Lib.hid (show TwOwn w.heap.size u3 (.slice ac nc cc) (plainL l) from hK2 u3 (fun q hq => hkn.out q (List.mem_cons_of_mem _ hq)))
        have HG := Lib.hid (And.intro HT2.gb HT2.cg)
        clear hb3 hkn hK1 hK2 hnew HT2 hgl HFs hl3 HT1
        go_wp2_with fail
        have hnew := one_new u3 (.cells #[.slice ac nc cc, .slice (some ⟨g, 0, none⟩) len (len + 12)] 22 (0, 0))
        have hl3 : l.length ≤ 1000000 := by rw [← HLe.out]; omega
        have HFs := two_fs (B := w.heap.size) hnew.2 HBl.out.size (Nat.le_trans HBl.out.size hnew.1.size) (HC.out.later hnew.1) (HLn.out.later hnew.1) HG.out.1 HG.out.2 HLe.out hl3
        refine (HAp2.out _ HFs (by omega) (fun j hj => ?_)).mono ?_
        · match j, hj with
          | 0, _ => simpa [plainL] using hl3
          | 1, _ => exact hl3
        rintro e u4 ⟨rfl, hb4, -⟩
        have HB4 := Lib.hid ((HBl.out.trans (hnew.1.mono HBl.out.size)).trans hb4)
        clear hb4 HFs hnew hl3
        go_wp2_with fail
        refine (HAw.out _).mono ?_
        rintro e u5 ⟨rfl, hb5⟩
        have HB5 := Lib.hid (HB4.out.trans (hb5.mono HB4.out.size))
        clear hb5
        go_wp2
        go_ret
        exact ⟨rfl, HB5.out⟩
  · have h120' : (120 : Int) < len := by omega
    go_enter Tryz.func3, Tryz.ntmps3
    go_wp2_with fail
    refine (HAw.out _).mono ?_
    rintro e w2 ⟨rfl, hb⟩
    go_wp2
    go_ret
    exact ⟨rfl, hb⟩
end Go.Proofs.YtadkjjpopmiceaaGreat
