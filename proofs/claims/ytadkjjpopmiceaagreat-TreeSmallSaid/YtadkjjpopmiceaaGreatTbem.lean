import Derived.Test.YtadkjjpopmiceaaGreatTbdm
namespace Go.Proofs.YtadkjjpopmiceaaGreat
open Go.RowKit Go.Lib

theorem BuN.below {B : Nat} {w w' : World} {b x : Nat} {v : Value} {l l' : List Tw} {most peak peak' : Nat} (hn : BuN B w b x v l' most peak' w') (h : BuI B w b x v l most peak) : Below B w w' := by
  obtain ⟨v', -, h2, -⟩ := hn
  refine Keeps.below h2 h.bw (fun k hS => ?_)
  rcases hS with rfl | hS
  · exact h.bx
  · exact (h.ar.2.1.lt k hS).1
theorem rowS_block {w : World} {g : Nat} {l : List Tw} {cur : Array Value} (h : w.heap[g]? = some (.cells cur 45 (0, 0))) (he : cur = (tvs l).toArray) (hok : ∀ t ∈ l, twOk t) (hl : l.length ≤ 1000000) (n : Nat) (hn : l.length = n) : TwRow w (.slice (some ⟨g, 0, none⟩) n n) l := hn ▸ ⟨tw_block h he (by unfold maxLen; omega), hok, hl⟩
def awL : List Tw := [⟨0,0,0,9,2⟩, ⟨0,0,0,2,0⟩, ⟨0,0,4,9,1⟩, ⟨0,0,5,6,0⟩]
abbrev t01 : Tw := ⟨0,0,0,1,0⟩
abbrev t23 : Tw := ⟨0,0,2,3,0⟩
abbrev t14 : Tw := ⟨7,0,1,4,1⟩
theorem aw1 : rightB awL = true := by decide
theorem aw2 : heiR awL = 3 := by decide
theorem aw3 : kidsR awL 2 = [3] := by decide
theorem aw4 : pathR awL 5 = [0,2,3] := by decide
theorem aw5 : pathR awL 3 = [0] := by decide
theorem aw6 : bPut 3 [] [t01] = (0, [t01]) := by decide
theorem aw7 : bPut 3 [t01] [t23] = (0, [t01, t23]) := by decide
theorem aw8 : bWrap 3 [t01, t23] 1 7 0 1 4 = (0, [t01, t14, t23]) := by decide
theorem aw9 : isMark [t01, t14, t23] 0 = true := by decide
theorem aw10 : topR [t01, t14, t23] = [0,1] := by decide
theorem aw11 : bBack [t01, t14, t23] 2 = (2, [t01, t14, t23]) := by decide
set_option maxRecDepth 100000 in
set_option maxHeartbeats 2000000 in
theorem awake_any (w : World) : Calls Tryz.prog 5 #[] w fun e w' => e = .returned (.bool true) ∧ Below w.heap.size w w' := by
  go_enter Tryz.func5, Tryz.ntmps5
  have HB := Lib.hid (Below.refl w.heap.size w)
  go_wp2_with fail
  refine (twig_any _ _ _ _).mono ?_
  rintro e w1 ⟨rfl, hb⟩
  have HB := Lib.hid (HB.out.trans (hb.mono HB.out.size))
  clear hb
  go_wp2_with fail
  refine (twig_any _ _ _ _).mono ?_
  rintro e w2 ⟨rfl, hb⟩
  have HB := Lib.hid (HB.out.trans (hb.mono HB.out.size))
  clear hb
  go_wp2_with fail
  refine (twig_any _ _ _ _).mono ?_
  rintro e w3 ⟨rfl, hb⟩
  have HB := Lib.hid (HB.out.trans (hb.mono HB.out.size))
  clear hb
  go_wp2_with fail
  refine (twig_any _ _ _ _).mono ?_
  rintro e w4 ⟨rfl, hb⟩
  have HB := Lib.hid (HB.out.trans (hb.mono HB.out.size))
  clear hb
  go_wp2_with fail
  have hal := one_new w4 (.cells #[.int .i64 0, .int .i64 0, .int .i64 0, .int .i64 9, .int .i64 2, .int .i64 0, .int .i64 0, .int .i64 0, .int .i64 2, .int .i64 0, .int .i64 0, .int .i64 0, .int .i64 4, .int .i64 9, .int .i64 1, .int .i64 0, .int .i64 0, .int .i64 5, .int .i64 6, .int .i64 0] 45 (0, 0))
  generalize w4.alloc (.cells #[.int .i64 0, .int .i64 0, .int .i64 0, .int .i64 9, .int .i64 2, .int .i64 0, .int .i64 0, .int .i64 0, .int .i64 2, .int .i64 0, .int .i64 0, .int .i64 0, .int .i64 4, .int .i64 9, .int .i64 1, .int .i64 0, .int .i64 0, .int .i64 5, .int .i64 6, .int .i64 0] 45 (0, 0)) = w5 at hal ⊢
  obtain ⟨hb, hg⟩ := hal
  have HB := Lib.hid (HB.out.trans (hb.mono HB.out.size))
  generalize w4.heap.size = g1 at hg ⊢
  have HT := Lib.hid (show TwRow w5 (.slice (some ⟨g1, 0, none⟩) 4 4) awL from rowS_block (l := awL) hg rfl (by simp [awL, twOk]) (by decide) 4 rfl)
  clear hb hg
  have HW5 := Lib.hid HB.out.size
  have HTo := Lib.hid HT.out
  refine (buNew 3 _ (by omega)).mono ?_
  rintro e w6 ⟨b, x, rfl, hU, hb⟩
  have HB := Lib.hid (HB.out.trans (hb.mono HB.out.size))
  have HO := Lib.hid hb
  have HU := Lib.hid hU
  clear hU hb HT
  go_wp2_with fail
  refine (twig_any _ _ _ _).mono ?_
  rintro e w7 ⟨rfl, hb⟩
  have HB := Lib.hid (HB.out.trans (hb.mono HB.out.size))
  have HO := Lib.hid (HO.out.trans (hb.mono HO.out.size))
  have HU := Lib.hid (HU.out.later hb)
  clear hb
  go_wp2_with fail
  have hal := one_new w7 (.cells #[.int .i64 0, .int .i64 0, .int .i64 0, .int .i64 1, .int .i64 0] 45 (0, 0))
  generalize w7.alloc (.cells #[.int .i64 0, .int .i64 0, .int .i64 0, .int .i64 1, .int .i64 0] 45 (0, 0)) = w8 at hal ⊢
  obtain ⟨hb, hg⟩ := hal
  have HB := Lib.hid (HB.out.trans (hb.mono HB.out.size))
  have HO := Lib.hid (HO.out.trans (hb.mono HO.out.size))
  have HU := Lib.hid (HU.out.later hb)
  generalize w7.heap.size = g2 at hg ⊢
  have HP := Lib.hid (show TwRow w8 (.slice (some ⟨g2, 0, none⟩) 1 1) [t01] from rowS_block (l := [t01]) hg rfl (by simp [twOk]) (by decide) 1 rfl)
  clear hb hg
  have hc := buPut _ HU.out HP.out (by decide)
  rw [aw6] at hc
  refine hc.mono ?_
  clear hc
  rintro e w9 ⟨rfl, hn⟩
  have hk := hn.below HU.out
  have HB := Lib.hid (HB.out.trans (hk.mono HW5.out))
  have HO := Lib.hid (HO.out.trans hk)
  obtain ⟨v2, hU, -, -⟩ := hn
  have HU := Lib.hid hU
  clear hk hU HP
  go_wp2_with fail
  refine (buMark _ HU.out).mono ?_
  rintro e w' ⟨rfl, rfl⟩
  go_wp2_with fail
  refine (twig_any _ _ _ _).mono ?_
  rintro e w10 ⟨rfl, hb⟩
  have HB := Lib.hid (HB.out.trans (hb.mono HB.out.size))
  have HO := Lib.hid (HO.out.trans (hb.mono HO.out.size))
  have HU := Lib.hid (HU.out.later hb)
  clear hb
  go_wp2_with fail
  have hal := one_new w10 (.cells #[.int .i64 0, .int .i64 0, .int .i64 2, .int .i64 3, .int .i64 0] 45 (0, 0))
  generalize w10.alloc (.cells #[.int .i64 0, .int .i64 0, .int .i64 2, .int .i64 3, .int .i64 0] 45 (0, 0)) = w11 at hal ⊢
  obtain ⟨hb, hg⟩ := hal
  have HB := Lib.hid (HB.out.trans (hb.mono HB.out.size))
  have HO := Lib.hid (HO.out.trans (hb.mono HO.out.size))
  have HU := Lib.hid (HU.out.later hb)
  generalize w10.heap.size = g3 at hg ⊢
  have HP := Lib.hid (show TwRow w11 (.slice (some ⟨g3, 0, none⟩) 1 1) [t23] from rowS_block (l := [t23]) hg rfl (by simp [twOk]) (by decide) 1 rfl)
  clear hb hg
  have hc := buPut _ HU.out HP.out (by decide)
  rw [aw7] at hc
  refine hc.mono ?_
  clear hc
  rintro e w12 ⟨rfl, hn⟩
  have hk := hn.below HU.out
  have HB := Lib.hid (HB.out.trans (hk.mono HW5.out))
  have HO := Lib.hid (HO.out.trans hk)
  obtain ⟨v3, hU, -, -⟩ := hn
  have HU := Lib.hid hU
  clear hk hU HP
  go_wp2_with fail
  have hc := buWrap 1 7 0 1 4 _ HU.out (by decide) (by decide)
  rw [aw8] at hc
  refine hc.mono ?_
  clear hc
  rintro e w13 ⟨rfl, hn⟩
  have hk := hn.below HU.out
  have HB := Lib.hid (HB.out.trans (hk.mono HW5.out))
  have HO := Lib.hid (HO.out.trans hk)
  obtain ⟨v4, hU, -, -⟩ := hn
  have HU := Lib.hid hU
  clear hk hU 
  go_wp2_with fail
  refine (buSince 0 _ HU.out).mono ?_
  rintro e w14 ⟨vl, rfl, ho, hb⟩
  rw [if_pos aw9] at ho ⊢
  unfold TwOwn at ho
  obtain ⟨la, lc, rfl⟩ := own_val ho
  have ho : TwOwn w13.heap.size w14 (.slice la 3 lc) [t01, t14, t23] := ho
  have HB := Lib.hid (HB.out.trans (hb.mono HB.out.size))
  have HO := Lib.hid (HO.out.trans (hb.mono HO.out.size))
  have HU := Lib.hid (HU.out.later hb)
  have HL := Lib.hid (TwRow.mk ho.tw (by simp [twOk]) (by decide))
  clear ho hb
  go_wp2_with fail
  refine (right_any _ awL _ (HTo.out.later HO.out).at' (HTo.out.later HO.out).ok (HTo.out.later HO.out).len).mono ?_
  rintro e w15 ⟨rfl, hb⟩
  have HB := Lib.hid (HB.out.trans (hb.mono HB.out.size))
  have HO := Lib.hid (HO.out.trans (hb.mono HO.out.size))
  have HU := Lib.hid (HU.out.later hb)
  have HL := Lib.hid (HL.out.later hb)
  clear hb
  rw [aw1]
  go_wp2_with fail
  have hh := tHeight_any _ _ (HTo.out.later HO.out)
  rw [aw2] at hh
  refine (hh).mono ?_
  rintro e w16 ⟨rfl, hb⟩
  have HB := Lib.hid (HB.out.trans (hb.mono HB.out.size))
  have HO := Lib.hid (HO.out.trans (hb.mono HO.out.size))
  have HU := Lib.hid (HU.out.later hb)
  have HL := Lib.hid (HL.out.later hb)
  clear hb
  clear hh
  go_wp2_with fail
  have hh := tKids_any _ 2 _ (HTo.out.later HO.out)
  rw [aw3] at hh
  refine (hh).mono ?_
  rintro e w17 ⟨k1, rfl, ho, hb⟩
  have hN := ho.nm
  have HB := Lib.hid (HB.out.trans (hb.mono HB.out.size))
  have HO := Lib.hid (HO.out.trans (hb.mono HO.out.size))
  have HU := Lib.hid (HU.out.later hb)
  have HL := Lib.hid (HL.out.later hb)
  obtain ⟨k1a, k1c, rfl⟩ := own_val ho
  have HN := Lib.hid hN
  clear ho hb hN
  clear hh
  go_wp2_with fail
  have hal := one_new w17 (.cells #[.int .i64 3] 3 (0, 0))
  generalize w17.alloc (.cells #[.int .i64 3] 3 (0, 0)) = w18 at hal ⊢
  obtain ⟨hb, hg⟩ := hal
  have HB := Lib.hid (HB.out.trans (hb.mono HB.out.size))
  have HO := Lib.hid (HO.out.trans (hb.mono HO.out.size))
  have HU := Lib.hid (HU.out.later hb)
  have HL := Lib.hid (HL.out.later hb)
  have HN := Lib.hid (HN.out.later hb)
  generalize w17.heap.size = g4 at hg ⊢
  have HM := Lib.hid (show NmAt w18 (.slice (some ⟨g4, 0, none⟩) 1 1) [3] from nm_block (l := [3]) hg (by unfold maxLen; simp))
  clear hb hg
  refine (sameInts_any _ _ _ _ HN.out HM.out).mono ?_
  rintro e w19 ⟨rfl, hb⟩
  have HB := Lib.hid (HB.out.trans (hb.mono HB.out.size))
  have HO := Lib.hid (HO.out.trans (hb.mono HO.out.size))
  have HU := Lib.hid (HU.out.later hb)
  have HL := Lib.hid (HL.out.later hb)
  have HN := Lib.hid (HN.out.later hb)
  clear hb
  clear HN HM
  go_wp2_with fail
  have hh := tPath_any _ 5 _ (HTo.out.later HO.out)
  rw [aw4] at hh
  refine (hh).mono ?_
  rintro e w20 ⟨k2, rfl, ho, hb⟩
  have hN := ho.nm
  have HB := Lib.hid (HB.out.trans (hb.mono HB.out.size))
  have HO := Lib.hid (HO.out.trans (hb.mono HO.out.size))
  have HU := Lib.hid (HU.out.later hb)
  have HL := Lib.hid (HL.out.later hb)
  obtain ⟨k2a, k2c, rfl⟩ := own_val ho
  have HN := Lib.hid hN
  clear ho hb hN
  clear hh
  go_wp2_with fail
  have hal := one_new w20 (.cells #[.int .i64 0, .int .i64 2, .int .i64 3] 3 (0, 0))
  generalize w20.alloc (.cells #[.int .i64 0, .int .i64 2, .int .i64 3] 3 (0, 0)) = w21 at hal ⊢
  obtain ⟨hb, hg⟩ := hal
  have HB := Lib.hid (HB.out.trans (hb.mono HB.out.size))
  have HO := Lib.hid (HO.out.trans (hb.mono HO.out.size))
  have HU := Lib.hid (HU.out.later hb)
  have HL := Lib.hid (HL.out.later hb)
  have HN := Lib.hid (HN.out.later hb)
  generalize w20.heap.size = g5 at hg ⊢
  have HM := Lib.hid (show NmAt w21 (.slice (some ⟨g5, 0, none⟩) 3 3) [0, 2, 3] from nm_block (l := [0, 2, 3]) hg (by unfold maxLen; simp))
  clear hb hg
  refine (sameInts_any _ _ _ _ HN.out HM.out).mono ?_
  rintro e w22 ⟨rfl, hb⟩
  have HB := Lib.hid (HB.out.trans (hb.mono HB.out.size))
  have HO := Lib.hid (HO.out.trans (hb.mono HO.out.size))
  have HU := Lib.hid (HU.out.later hb)
  have HL := Lib.hid (HL.out.later hb)
  have HN := Lib.hid (HN.out.later hb)
  clear hb
  clear HN HM
  go_wp2_with fail
  have hh := tPath_any _ 3 _ (HTo.out.later HO.out)
  rw [aw5] at hh
  refine (hh).mono ?_
  rintro e w23 ⟨k3, rfl, ho, hb⟩
  have hN := ho.nm
  have HB := Lib.hid (HB.out.trans (hb.mono HB.out.size))
  have HO := Lib.hid (HO.out.trans (hb.mono HO.out.size))
  have HU := Lib.hid (HU.out.later hb)
  have HL := Lib.hid (HL.out.later hb)
  obtain ⟨k3a, k3c, rfl⟩ := own_val ho
  have HN := Lib.hid hN
  clear ho hb hN
  clear hh
  go_wp2_with fail
  have hal := one_new w23 (.cells #[.int .i64 0] 3 (0, 0))
  generalize w23.alloc (.cells #[.int .i64 0] 3 (0, 0)) = w24 at hal ⊢
  obtain ⟨hb, hg⟩ := hal
  have HB := Lib.hid (HB.out.trans (hb.mono HB.out.size))
  have HO := Lib.hid (HO.out.trans (hb.mono HO.out.size))
  have HU := Lib.hid (HU.out.later hb)
  have HL := Lib.hid (HL.out.later hb)
  have HN := Lib.hid (HN.out.later hb)
  generalize w23.heap.size = g6 at hg ⊢
  have HM := Lib.hid (show NmAt w24 (.slice (some ⟨g6, 0, none⟩) 1 1) [0] from nm_block (l := [0]) hg (by unfold maxLen; simp))
  clear hb hg
  refine (sameInts_any _ _ _ _ HN.out HM.out).mono ?_
  rintro e w25 ⟨rfl, hb⟩
  have HB := Lib.hid (HB.out.trans (hb.mono HB.out.size))
  have HO := Lib.hid (HO.out.trans (hb.mono HO.out.size))
  have HU := Lib.hid (HU.out.later hb)
  have HL := Lib.hid (HL.out.later hb)
  have HN := Lib.hid (HN.out.later hb)
  clear hb
  clear HN HM
  go_wp2_with fail
  have hh := tRoots_any _ _ HL.out
  rw [aw10] at hh
  refine (hh).mono ?_
  rintro e w26 ⟨k4, rfl, ho, hb⟩
  have hN := ho.nm
  have HB := Lib.hid (HB.out.trans (hb.mono HB.out.size))
  have HO := Lib.hid (HO.out.trans (hb.mono HO.out.size))
  have HU := Lib.hid (HU.out.later hb)
  have HL := Lib.hid (HL.out.later hb)
  obtain ⟨k4a, k4c, rfl⟩ := own_val ho
  have HN := Lib.hid hN
  clear ho hb hN
  clear hh
  go_wp2_with fail
  have hal := one_new w26 (.cells #[.int .i64 0, .int .i64 1] 3 (0, 0))
  generalize w26.alloc (.cells #[.int .i64 0, .int .i64 1] 3 (0, 0)) = w27 at hal ⊢
  obtain ⟨hb, hg⟩ := hal
  have HB := Lib.hid (HB.out.trans (hb.mono HB.out.size))
  have HO := Lib.hid (HO.out.trans (hb.mono HO.out.size))
  have HU := Lib.hid (HU.out.later hb)
  have HL := Lib.hid (HL.out.later hb)
  have HN := Lib.hid (HN.out.later hb)
  generalize w26.heap.size = g7 at hg ⊢
  have HM := Lib.hid (show NmAt w27 (.slice (some ⟨g7, 0, none⟩) 2 2) [0, 1] from nm_block (l := [0, 1]) hg (by unfold maxLen; simp))
  clear hb hg
  refine (sameInts_any _ _ _ _ HN.out HM.out).mono ?_
  rintro e w28 ⟨rfl, hb⟩
  have HB := Lib.hid (HB.out.trans (hb.mono HB.out.size))
  have HO := Lib.hid (HO.out.trans (hb.mono HO.out.size))
  have HU := Lib.hid (HU.out.later hb)
  have HL := Lib.hid (HL.out.later hb)
  have HN := Lib.hid (HN.out.later hb)
  clear hb
  clear HN HM
  go_wp2_with fail
  have hc := buBack 2 _ HU.out
  rw [aw11] at hc
  refine hc.mono ?_
  clear hc
  rintro e w29 ⟨rfl, hn⟩
  have hk := hn.below HU.out
  have HB := Lib.hid (HB.out.trans (hk.mono HW5.out))
  have HO := Lib.hid (HO.out.trans hk)
  obtain ⟨v5, hU, -, -⟩ := hn
  have HU := Lib.hid hU
  clear hk hU 
  go_wp2
  go_ret
  exact ⟨rfl, HB.out⟩
end Go.Proofs.YtadkjjpopmiceaaGreat
