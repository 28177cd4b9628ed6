/-
  What was dropped never comes: the law's walk.
-/
import Derived.Test.YtcpcgpanmoellaaHrJ
namespace Go.Proofs.Ytcpcgpanmoellaa
open Go.RowKit Go.Lib

set_option maxRecDepth 100000 in
set_option maxHeartbeats 4000000 in
theorem drops_easy (W : World) (v : Value) (ks : List Int) (x y tk : Int) (hv : CellsAt W v (iv ks)) (hl : 300 < ks.length ∨ ks.length = 0) :
    Calls Try.prog 3 #[v, .int .i64 x, .int .i64 y, .int .i64 tk] W fun en w' => en = .returned (.bool true) ∧ Below W.heap.size W w' := by
  have HA := Lib.hid (awake_any W)
  obtain ⟨ao, b, off, cap, rfl, hlc, hm, -, -, -, -⟩ := hv
  simp only [List.length_map] at hlc ⊢
  unfold maxLen at hm
  rcases hl with h | h
  · obtain ⟨n, hn⟩ : ∃ n, n = ks.length := ⟨_, rfl⟩
    rw [← hn] at h hlc ⊢
    have h2 : (n : Int) > 300 := by omega
    clear hn
    go_enter Try.func3, Try.ntmps3
    go_wp2_with fail
    refine HA.out.mono ?_
    rintro en w1 ⟨rfl, hb⟩
    have HB := Lib.hid hb
    clear hb
    go_wp2
    go_ret
    exact ⟨rfl, HB.out⟩
  · rw [h]
    clear hlc h
    go_enter Try.func3, Try.ntmps3
    go_wp2_with fail
    refine HA.out.mono ?_
    rintro en w1 ⟨rfl, hb⟩
    have HB := Lib.hid hb
    clear hb
    go_wp2
    go_ret
    exact ⟨rfl, HB.out⟩
set_option maxRecDepth 100000 in
set_option maxHeartbeats 8000000 in
theorem drops_main (W : World) (v : Value) (ks : List Int) (x y tk : Int) (hv : CellsAt W v (iv ks)) :
    Calls Try.prog 3 #[v, .int .i64 x, .int .i64 y, .int .i64 tk] W fun en w' => en = .returned (.bool true) ∧ Below W.heap.size W w' := by
  by_cases hl : 300 < ks.length ∨ ks.length = 0
  · exact drops_easy W v ks x y tk hv hl
  have HA := Lib.hid (awake_any W)
  obtain ⟨ao, b, off, cap, rfl, hlc, hm, -, hao, -, hc⟩ := hv
  simp only [List.length_map] at hlc hao hc ⊢
  obtain rfl := hao (by omega)
  have hc' : ∀ k, k < ks.length → W.cell? ⟨b, off + k, none⟩ = some (.int .i64 (ks.getD k 0)) := fun k hk => by have := hc k hk; simpa [hk] using this
  have HC := Lib.hid hc'
  have hbw : b < W.heap.size := World.block_lt_of_cell? (a := ⟨b, _, none⟩) _ (hc' 0 (by omega))
  have HBW := Lib.hid hbw
  obtain ⟨n, hn⟩ : ∃ n, n = ks.length := ⟨_, rfl⟩
  have HN := Lib.hid hn
  have h1 : n ≤ 300 := by omega
  have h2 : 0 < n := by omega
  have HL := Lib.hid (show ks.length ≤ 300 by omega)
  rw [← hn] at hlc ⊢
  have h3 : ¬ (n : Int) > 300 := by omega
  have h4 : ((n : Int) == 0) = false := by simp; omega
  have h5 : ((n : Int) == 300) = false ∨ True := .inr trivial
  clear hl hao hc hc' hbw hn hm h5
  go_enter Try.func3, Try.ntmps3
  go_wp2_with fail
  refine HA.out.mono ?_
  rintro en w ⟨rfl, hb⟩
  have HB := Lib.hid hb
  clear hb
  go_wp2_with fail
  refine (new_quiet (base := w.heap.size) w (Nat.le_refl _) (Nat.zero_le _)).mono ?_
  rintro en w1 ⟨q, rfl, -, hq, hb1⟩
  have HS0 := Lib.hid (show DrA w.heap.size q w w1 ks 0 from ⟨hq, hb1⟩)
  clear hq hb1
  go_wp2
  go_loopw [11] (fun i wr => ∃ k : Nat, k ≤ n ∧ i = .int .i64 k ∧ DrA w.heap.size q w wr ks k) (fun i _ => n - (intOf i).toNat)
  case atStart => exact ⟨0, Nat.zero_le _, rfl, HS0.out⟩
  case round =>
    obtain ⟨k, hk, rfl, hs⟩ := hrel
    have HS := Lib.hid hs
    clear hs
    by_cases hlt : k < n
    · have hlt2 : (k : Int) < n := by omega
      have hcell : wr.cell? ⟨b, off + k, none⟩ = some (.int .i64 (ks.getD k 0)) := (HS.out.bel.cell (p := ⟨b, _, none⟩) (Nat.lt_of_lt_of_le HBW.out HB.out.size)).trans ((HB.out.cell (p := ⟨b, _, none⟩) HBW.out).trans (HC.out k (by rw [← HN.out]; exact hlt)))
      obtain ⟨key, hkey⟩ : ∃ z, z = ks.getD k 0 := ⟨_, rfl⟩
      rw [← hkey] at hcell
      have HKey := Lib.hid hkey
      have HLt := Lib.hid hlt
      clear hkey
      go_wp2_with fail
      obtain ⟨hbx, hx⟩ := one_new wr (.cells #[.int .i64 key, .int .i64 k] 30)
      refine (drops_puts w _ ks k q wr.heap.size HL.out (by rw [← HN.out]; exact HLt.out) (HS.out.later hbx) (by rw [← HKey.out]; exact hx)).mono ?_
      rintro en w3 ⟨rfl, hs3⟩
      have HS3 := Lib.hid hs3
      clear hs3 hbx hx
      go_wp2
      go_roundw
      case rel => exact ⟨k + 1, by omega, by go_num, HS3.out⟩
      case measure => simp [intOf]; omega
    · have hkn : k = n := by omega
      have hk3 : ¬ (k : Int) < n := by omega
      rw [hkn] at HS
      obtain ⟨a, ha⟩ : ∃ a : Nat, pickN x n = a := ⟨(pickN x n).toNat, by have := pickN_range x n (by omega); omega⟩
      obtain ⟨c, hcc⟩ : ∃ c : Nat, pickN y n = c := ⟨(pickN y n).toNat, by have := pickN_range y n (by omega); omega⟩
      have ha1 : a < n := by have := pickN_range x n (by omega); omega
      have hc1 : c < n := by have := pickN_range y n (by omega); omega
      have HP1 := Lib.hid (fun (u : World) => pick_any u x n (by omega) (by omega))
      have HP2 := Lib.hid (fun (u : World) => pick_any u y n (by omega) (by omega))
      rw [ha] at HP1
      rw [hcc] at HP2
      have HA1 := Lib.hid ha1
      have HC1 := Lib.hid hc1
      clear hkn hlt ha hcc hk
      go_wp2_with fail
      refine (HP1.out _).mono ?_
      rintro en w1 ⟨rfl, rfl⟩
      go_wp2_with fail
      refine (HP2.out _).mono ?_
      rintro en w1 ⟨rfl, rfl⟩
      go_wp2_with fail
      refine (quDrop a _ HS.out.qu (kx_small (by omega) (by omega))).mono ?_
      rw [mkM_has, show decide (a < n) = true by simpa using HA1.out]
      rintro en w3 ⟨rfl, hq3, hk3⟩
      have HQ3 := Lib.hid hq3
      have HB3 := Lib.hid (HS.out.bel.trans (hk3.below HS.out.bel.size hq3.base))
      clear hq3 hk3
      go_wp2_with fail
      refine (quDrop a _ HQ3.out (kx_small (by omega) (by omega))).mono ?_
      rw [show hasN (dropN (mkM ks n) a) a = false by rw [dropN_has]; simp]
      rintro en w4 ⟨rfl, hq4, hk4⟩
      rw [dropN_none (show hasN (dropN (mkM ks n) a) a = false by rw [dropN_has]; simp)] at hq4
      have HQ4 := Lib.hid hq4
      have HB4 := Lib.hid (HB3.out.trans (hk4.below HB3.out.size hq4.base))
      clear hq4 hk4
      have hmv : ∃ r : Int, (Calls Try.prog 12 #[.pointer (some ⟨q, 0, none⟩), .int .i64 c, .int .i64 tk] w4 fun en w' => en = .returned (.int .i64 r) ∧ Qu w.heap.size w' q n (moveN (dropN (mkM ks n) a) c tk) ∧ KeepQ w.heap.size q w4 w') ∧ (((r == 0) = true ∧ ((a : Int) != (c : Int)) = true) ∨ ((r == 0) = false ∧ ((a : Int) != (c : Int)) = false)) := by
        by_cases hac : a = c
        · refine ⟨5, ?_, .inr ⟨rfl, by simp [hac]⟩⟩
          have hn : hasN (dropN (mkM ks n) a) c = false := by rw [dropN_has]; simp [hac]
          rw [moveN_none hn]
          exact quMove_no _ _ _ HQ4.out (kx_small (by have := HC1.out; omega) (by have := HC1.out; omega)) hn
        · refine ⟨0, ?_, .inl ⟨rfl, by simp; omega⟩⟩
          have hn : hasN (dropN (mkM ks n) a) c = true := by rw [dropN_has, mkM_has]; simp; exact ⟨HC1.out, by omega⟩
          exact quMove_yes _ _ _ HQ4.out (kx_small (by have := HC1.out; omega) (by have := HC1.out; omega)) hn
      obtain ⟨r, hmv, hr⟩ := hmv
      have HMv := Lib.hid hmv
      clear hmv
      go_wp2_with fail
      refine HMv.out.mono ?_
      rintro en w5 ⟨rfl, hq5, hk5⟩
      have HQ5 := Lib.hid hq5
      have HB5 := Lib.hid (HB4.out.trans (hk5.below HB4.out.size hq5.base))
      clear hq5 hk5
      rcases hr with ⟨hr1, hr2⟩ | ⟨hr1, hr2⟩
      all_goals
        go_upto_region 15 with (fail)
        refine gen_world (S := fun u => DrB w.heap.size q w5.heap.size w u ks a c tk 0 0 (-1)) ?_ (fun u hu => ?_)
        · obtain ⟨h1, h2⟩ := one_new w5 (.cells #[.int .i64 0, .int .i64 (-1)] 30)
          exact ⟨⟨_, by rw [← HN.out]; exact HQ5.out.later h1, DropP.start (by rw [← HN.out]; exact HA1.out) _ _⟩, h2, HB5.out.trans (h1.mono HB5.out.size), HB5.out.size⟩
        have HU := Lib.hid hu
        clear hu hr1 hr2
        have hsub : IntKind.i64.wrap ((n : Int) - 1) = (n : Int) - 1 := IntWalk.i64_in _ (by omega)
        go_wp2
        go_loopw [15] (fun i wr => ∃ k : Nat, k + 1 ≤ n ∧ i = .int .i64 k ∧ ∃ lk ln, DrB w.heap.size q w5.heap.size w wr ks a c tk k lk ln) (fun i _ => n - (intOf i).toNat)
        case atStart => exact ⟨0, by omega, rfl, _, _, HU.out⟩
        case round =>
          obtain ⟨k, hk, rfl, lk, ln, hs⟩ := hrel
          have HS := Lib.hid hs
          clear hs
          by_cases hlt : k + 1 < n
          · obtain ⟨M, hq, hp⟩ := HS.out.ex
            have h0 : M ≠ [] := fun h => by have := hp.len; rw [h] at this; simp at this; rw [← HN.out] at this; omega
            have HT := Lib.hid (quTake wr hq h0)
            have HP := Lib.hid hp
            have HTr := Lib.hid hq.trn
            have hq0 := hq.base
            have hlb := HS.out.last
            have hlq : w5.heap.size ≠ q := fun e => by obtain ⟨cs, h1⟩ := hq.qblk; rw [← e, hlb] at h1; simp at h1
            have HLq := Lib.hid hlq
            have HLt := Lib.hid hlt
            have hlt2 : (k : Int) < (n : Int) - 1 := by omega
            clear hq hp h0 hlb hlq
            go_wp2_with fail
            refine HT.out.mono ?_
            rintro en w6 ⟨e, hf, rfl, hq6, hk6⟩
            have hpn := HP.out.next HTr.out hf
            have hent := HP.out.ent e hf.1
            have hgt := HP.out.gt
            have hgte : 0 < k → lk < e.key ∨ (lk = e.key ∧ ln < e.name) := fun h => hgt h e hf.1
            obtain ⟨i, hi, hia, rfl⟩ := hent
            have hno : hasN (dropN M i) i = false := by rw [dropN_has]; simp
            obtain ⟨ek, hek⟩ : ∃ ek, ek = if i = c then tk else ks.getD i 0 := ⟨_, rfl⟩
            rw [← hek] at hpn hgte ⊢
            simp only at hpn hgte hq6 ⊢
            have hb6 := HS.out.bel.trans (hk6.below HS.out.bel.size hq6.base)
            have hl6 := hk6.cells HS.out.last (by decide) HLq.out
            have HPn := Lib.hid hpn
            have HGt := Lib.hid hgte
            have HEk := Lib.hid hek
            have HQ6 := Lib.hid hq6
            have HB6 := Lib.hid hb6
            have HL6 := Lib.hid hl6
            have HNo := Lib.hid hno
            have hi2 : (i : Int) < n := by have := HN.out; omega
            have HPk := Lib.hid (fun (u : World) => pick_any u i n (by omega) (by omega))
            rw [pickN_in i n (by omega) (by omega)] at HPk
            have hia2 : ((i : Int) == (a : Int)) = false := by simp; omega
            have hia3 : ¬ (i : Int) = (a : Int) := by omega
            have HI := Lib.hid (show i < ks.length from hi)
            clear hf hk6 hpn hgt hgte hek hq6 hb6 hl6 hno hi hia
            go_upto_region 19 with (fail)
            refine gen_world (S := fun u => Below w6.heap.size w6 u ∧ u.heap[w6.heap.size]? = some (.cells #[.int .i64 ek, .int .i64 i] 30 (0, 0))) (one_new w6 _) (fun u hu => ?_)
            obtain ⟨hb, hx⟩ := hu
            have HBu := Lib.hid hb
            have HX := Lib.hid hx
            have hlu := (hb.block _ (lt_of_block HL6.out)).trans HL6.out
            have HLu := Lib.hid hlu
            obtain ⟨x0, x1⟩ := two_box hx
            obtain ⟨l0, l1⟩ := two_box hlu
            have fl0 : u.frozen? ⟨w5.heap.size, 0, none⟩ = false := (block_cell' hlu 0).2
            have fl1 : u.frozen? ⟨w5.heap.size, 1, none⟩ = false := (block_cell' hlu 1).2
            have HQu := Lib.hid (HQ6.out.later hb)
            have hwu := HB6.out.trans (hb.mono HB6.out.size)
            have HWu := Lib.hid hwu
            have hcell : u.cell? ⟨b, off + i, none⟩ = some (.int .i64 (ks.getD i 0)) := (hwu.cell (p := ⟨b, _, none⟩) (Nat.lt_of_lt_of_le HBW.out HB.out.size)).trans ((HB.out.cell (p := ⟨b, _, none⟩) HBW.out).trans (HC.out i HI.out))
            have hky := quKey i u HQu.out (kx_small (by omega) (by omega))
            rw [HNo.out, keyN_none HNo.out] at hky
            have HKy := Lib.hid hky
            obtain ⟨key, hkey⟩ : ∃ z, z = ks.getD i 0 := ⟨_, rfl⟩
            rw [← hkey] at hcell HEk
            have hset : Keeps (fun k => k = w5.heap.size) u ((u.setCell ⟨w5.heap.size, 0, none⟩ (.int .i64 ek)).setCell ⟨w5.heap.size, 1, none⟩ (.int .i64 i)) := ((Keeps.refl (fun k => k = w5.heap.size) u).setCell (p := ⟨w5.heap.size, 0, none⟩) rfl _).setCell (p := ⟨w5.heap.size, 1, none⟩) rfl _
            have HE := Lib.hid (show DrB w.heap.size q w5.heap.size w ((u.setCell ⟨w5.heap.size, 0, none⟩ (.int .i64 ek)).setCell ⟨w5.heap.size, 1, none⟩ (.int .i64 i)) ks a c tk (k + 1) ek i from
              ⟨⟨_, HQu.out.off hset HLu.out, HPn.out⟩, block_setCell' (block_setCell' HLu.out), hwu.trans (Keeps.below hset hwu.size fun k e => by rw [e]; exact HS.out.lb), HS.out.lb⟩)
            clear hb hx hlu hwu hky hkey hset
            have hways : ((k : Int) > 0) = False ∨ (0 < k ∧ lk < ek) ∨ (0 < k ∧ lk = ek ∧ ln < i) := by
              rcases Nat.eq_zero_or_pos k with h | h
              · left; simp; omega
              · right
                rcases HGt.out h with h1 | h1
                · exact .inl ⟨h, h1⟩
                · exact .inr ⟨h, h1⟩
            go_wp2_with fail
            refine HKy.out.mono ?_
            rintro en w7 ⟨rfl, rfl⟩
            go_wp2_with fail
            refine (HPk.out _).mono ?_
            rintro en w7 ⟨rfl, rfl⟩
            by_cases hic : i = c
            · have q1 : ((i : Int) == (c : Int)) = true := by rw [hic]; simp
              have hek := HEk.out
              rw [if_pos hic] at hek
              subst hek
              clear hic
              rcases hways with h | ⟨h, h'⟩ | ⟨h, h', h''⟩
              · have z1 : ¬ (k : Int) > 0 := by simp at h; omega
                clear h
                go_wp2
                go_roundw
                case rel => exact ⟨k + 1, by have := HLt.out; omega, by go_num, _, _, HE.out⟩
                case measure => simp [intOf]; have := HLt.out; omega
              · have z1 : (k : Int) > 0 := by omega
                have z2 : ¬ lk > ek := by omega
                have z3 : (lk == ek) = false := by simp; omega
                clear h
                go_wp2
                go_roundw
                case rel => exact ⟨k + 1, by have := HLt.out; omega, by go_num, _, _, HE.out⟩
                case measure => simp [intOf]; have := HLt.out; omega
              · subst h'
                have z1 : (k : Int) > 0 := by omega
                have z2 : ¬ ln ≥ (i : Int) := by omega
                clear h
                go_wp2
                go_roundw
                case rel => exact ⟨k + 1, by have := HLt.out; omega, by go_num, _, _, HE.out⟩
                case measure => simp [intOf]; have := HLt.out; omega
            · have q1 : ((i : Int) == (c : Int)) = false := by simp; omega
              have hek := HEk.out
              rw [if_neg hic] at hek
              subst hek
              clear hic
              rcases hways with h | ⟨h, h'⟩ | ⟨h, h', h''⟩
              · have z1 : ¬ (k : Int) > 0 := by simp at h; omega
                clear h
                go_wp2
                go_roundw
                case rel => exact ⟨k + 1, by have := HLt.out; omega, by go_num, _, _, HE.out⟩
                case measure => simp [intOf]; have := HLt.out; omega
              · have z1 : (k : Int) > 0 := by omega
                have z2 : ¬ lk > ek := by omega
                have z3 : (lk == ek) = false := by simp; omega
                clear h
                go_wp2
                go_roundw
                case rel => exact ⟨k + 1, by have := HLt.out; omega, by go_num, _, _, HE.out⟩
                case measure => simp [intOf]; have := HLt.out; omega
              · subst h'
                have z1 : (k : Int) > 0 := by omega
                have z2 : ¬ ln ≥ (i : Int) := by omega
                clear h
                go_wp2
                go_roundw
                case rel => exact ⟨k + 1, by have := HLt.out; omega, by go_num, _, _, HE.out⟩
                case measure => simp [intOf]; have := HLt.out; omega
          · obtain ⟨M, hq, hp⟩ := HS.out.ex
            have hM : M = [] := by
              have := hp.len
              rw [← HN.out] at this
              exact List.eq_nil_of_length_eq_zero (by omega)
            subst hM
            have hlt2 : ¬ (k : Int) < (n : Int) - 1 := by omega
            have HQ := Lib.hid hq
            have HLq := Lib.hid (quLen wr hq)
            have hq0 := hq.base
            clear hq hp hlt
            go_wp2_with fail
            refine HLq.out.mono ?_
            rintro en w6 ⟨rfl, rfl⟩
            go_wp2_with fail
            obtain ⟨h1, h2⟩ := one_new wr (.cells #[.int .i64 1, .int .i64 a] 30)
            refine (quPut1 _ (HQ.out.later h1) h2 (kx_small (by omega) (by omega)) (by simp) (by rw [← HN.out]; omega) rfl).mono ?_
            rintro en w7 ⟨rfl, hq7, hk7⟩
            have HQ7 := Lib.hid hq7
            have hb7 := (HS.out.bel.trans (h1.mono HS.out.bel.size)).trans (hk7.below (HS.out.bel.trans (h1.mono HS.out.bel.size)).size hq7.base)
            have HB7 := Lib.hid hb7
            clear hq7 hk7 hb7 h1 h2
            go_wp2_with fail
            obtain ⟨h1, h2⟩ := one_new w7 (.cells #[.int .i64 1, .int .i64 a] 30)
            refine (quPut1E _ (HQ7.out.later h1) h2 (kx_small (by omega) (by omega)) (by simp) (by rw [← HN.out]; omega) (by simp [hasN])).mono ?_
            rintro en w8 ⟨rfl, hq8, hk8⟩
            have hb8 := (HB7.out.trans (h1.mono HB7.out.size)).trans (hk8.below (HB7.out.trans (h1.mono HB7.out.size)).size hq8.base)
            have HB8 := Lib.hid hb8
            clear hq8 hk8 hb8 h1 h2
            go_wp2
            go_ret
            exact ⟨rfl, HB.out.trans (HB8.out.mono HB.out.size)⟩
end Go.Proofs.Ytcpcgpanmoellaa
