import Derived.Test.YtadkjjpopmiceaaGreatRfpm
namespace Go.Proofs.YtadkjjpopmiceaaGreat
open Go.RowKit Go.Lib

/-- how high the tree at n is. -/
def hiR (l : List Tw) (n : Nat) : Nat := 1 + mxd l (n + 1) (aN l n - (n + 1))
theorem dep_len (l : List Tw) (s i : Nat) : dep l s i ≤ i + 1 - s := by
  unfold dep
  exact Nat.le_trans (List.length_filter_le _ _) (by simp)
theorem mxd_len (l : List Tw) (s k : Nat) : mxd l s k ≤ k := (mxd_le l s k k).2 fun i h1 h2 => by have := dep_len l s i; omega
theorem hiR_le {l : List Tw} {n m : Nat} {ks : List Nat} (h : Sub l n m ks) : hiR l n ≤ l.length := by
  have := h.lt
  unfold hiR
  rw [h.aN]
  have := mxd_len l (n + 1) (m - (n + 1))
  omega
/-- the greatest so far. -/
def MxI (l : List Tw) (rs : List Nat) (i M : Nat) : Prop := ∀ d, M ≤ d ↔ ∀ j (hj : j < rs.length), j < i → hiR l rs[j] ≤ d
theorem MxI.zero (l : List Tw) (rs : List Nat) : MxI l rs 0 0 := fun d => ⟨fun _ j hj h => absurd h (by omega), fun _ => Nat.zero_le _⟩
theorem MxI.next {l : List Tw} {rs : List Nat} {i M : Nat} (h : MxI l rs i M) (hi : i < rs.length) : MxI l rs (i + 1) (max M (hiR l rs[i])) := fun d => by
  rw [Nat.max_le, h d]
  constructor
  · rintro ⟨h1, h2⟩ j hj hji
    by_cases he : j = i
    · subst he; exact h2
    · exact h1 j hj (by omega)
  · intro h1
    exact ⟨fun j hj hji => h1 j hj (by omega), h1 i hi (by omega)⟩
theorem MxI.all {l : List Tw} {rs : List Nat} {M : Nat} (h : MxI l rs rs.length M) (d : Nat) : M ≤ d ↔ ∀ r ∈ rs, hiR l r ≤ d := by
  rw [h d]
  constructor
  · intro h1 r hr
    obtain ⟨j, hj, rfl⟩ := List.getElem_of_mem hr
    exact h1 j hj hj
  · intro h1 j hj _
    exact h1 _ (List.getElem_mem hj)
theorem MxI.eq {l : List Tw} {lo hi a : Int} {n e : Nat} {rs : List Nat} {M : Nat} (h : MxI l rs rs.length M) (hF : For l lo hi a n e rs) : M = mxd l n (e - n) := by
  have key : ∀ d, M ≤ d ↔ mxd l n (e - n) ≤ d := fun d => by rw [h.all d, hF.mx d]; rfl
  exact Nat.le_antisymm ((key _).2 (Nat.le_refl _)) ((key _).1 (Nat.le_refl _))
theorem MxI.le {l : List Tw} {rs : List Nat} {i M : Nat} (h : MxI l rs i M) (hs : ∀ r ∈ rs, hiR l r ≤ l.length) : M ≤ l.length := (h _).2 fun j hj _ => hs _ (List.getElem_mem hj)
set_option maxRecDepth 100000 in
set_option maxHeartbeats 2000000 in
theorem rHigh_all {l : List Tw} (hl : l.length ≤ 1000000) (hR : rightB l = true) : ∀ (d n : Nat), l.length - n ≤ d → n < l.length → ∀ (v : Value) (w : World), TwAt w v l →
    Calls Tryz.prog 51 #[v, .int .i64 n] w fun e w' => e = .returned (.int .i64 (hiR l n)) ∧ Below w.heap.size w w' := by
  intro d
  induction d with
  | zero => intro n hd hn; omega
  | succ d ih =>
    intro n hd hn v w h
    have H := Lib.hid h
    have Ih := Lib.hid ih
    obtain ⟨m, ks, hs⟩ := ((rightB_iff l).1 hR).sub hn
    have hlt := hs.lt
    obtain ⟨hl1, hl2⟩ := hlt
    have HRow := Lib.hid (show (rowL l (atT l n).kids.toNat (n + 1)).getD [] = ks from rowD_of hs)
    have HHi := Lib.hid (show ∀ M, MxI l ks ks.length M → hiR l n = 1 + M from fun M hM => by unfold hiR; rw [hs.aN, hM.eq hs.2.2.2])
    have HKs := Lib.hid (show ∀ r ∈ ks, n < r ∧ r < l.length ∧ hiR l r ≤ l.length from fun r hr => by
      have h1 := hs.2.2.2.root r hr
      have h2 : r < l.length := by omega
      obtain ⟨m', ks', hs'⟩ := ((rightB_iff l).1 hR).sub h2
      exact ⟨by omega, h2, hiR_le hs'⟩)
    obtain ⟨ao, cap, rfl⟩ := h.val
    obtain ⟨tb, toff, rfl, -, -, -, c4⟩ := h.span hn
    obtain ⟨kk, hkk⟩ : ∃ kk, kk = (atT l n).kids := ⟨_, rfl⟩
    rw [← hkk] at c4 HRow
    obtain ⟨len, hlen⟩ : ∃ len, len = l.length := ⟨_, rfl⟩
    have HLe := Lib.hid hlen
    have HC := Lib.hid (rRow_any hl (n + 1) kk _ w h (by omega))
    rw [HRow.out] at HC
    rw [← hlen] at hl H hn hd HC hl2 ⊢
    have hn' : (n : Int) < len := by omega
    clear h ih hkk hlen hs HRow
    go_enter Tryz.func51, Tryz.ntmps51
    go_wp2_with fail
    refine HC.out.mono ?_
    rintro e w2 ⟨v', rfl, ho, hb⟩
    have hnm := (show OwnN w.heap.size w2 v' ks from ho).nm
    have HB2 := Lib.hid hb
    obtain ⟨ka, kc, rfl, hk1, hk2⟩ := hnm.val
    obtain ⟨rn, hrn⟩ : ∃ rn, rn = ks.length := ⟨_, rfl⟩
    have HRn := Lib.hid hrn
    rw [← hrn] at hnm hk1 ⊢
    have hrn2 : rn ≤ 9223372036854775807 := by unfold maxLen at hk2; omega
    have HN := Lib.hid hnm
    clear ho hb hnm hrn hk1 hk2 c4 HC
    go_wp2
    go_loopw [5, 8] (fun s i wr => ∃ (q M : Nat), q ≤ rn ∧ i = .int .i64 q ∧ s = .int .i64 M ∧ Hid (MxI l ks q M) ∧ Below w2.heap.size w2 wr) (fun _ i _ => rn - (intOf i).toNat)
    case atStart => exact ⟨0, 0, by omega, rfl, rfl, Lib.hid (MxI.zero l ks), Below.refl _ _⟩
    case round =>
      obtain ⟨q, M, hq, rfl, rfl, HM, hbel⟩ := hrel
      have hMl := HM.out.le (fun r hr => (HKs.out r hr).2.2)
      rw [← HLe.out] at hMl
      have HB3 := Lib.hid (HB2.out.trans (hbel.mono HB2.out.size))
      by_cases hql : q < rn
      · have hql' : (q : Int) < rn := by omega
        have hqR : q < ks.length := by rw [← HRn.out]; exact hql
        obtain ⟨kb, ko, rfl, hkb, k0⟩ := (HN.out.later hbel).cells (i := q) hqR
        have hnx := HM.out.next hqR
        have hmem := HKs.out ks[q] (List.getElem_mem _)
        obtain ⟨r, hr⟩ : ∃ r, r = ks[q] := ⟨_, rfl⟩
        rw [← hr] at k0 hmem hnx
        obtain ⟨hr1, hr2, hr3⟩ := hmem
        have HCh := Lib.hid (Ih.out r (by have := HLe.out; omega) hr2 _ wr (H.out.later HB3.out))
        obtain ⟨hh, hhd⟩ : ∃ hh, hh = hiR l r := ⟨_, rfl⟩
        rw [← hhd] at HCh hnx hr3
        rw [← HLe.out] at hr3
        have HNx := Lib.hid hnx
        have HBk := Lib.hid hbel
        clear hr hnx hbel hhd hr2 hkb
        by_cases hmx : M < hh
        · have hmx' : (M : Int) < hh := by omega
          have hpm : max (M : Int) (hh : Int) = (hh : Int) := by omega
          have hmm : max M hh = hh := by omega
          rw [hmm] at HNx
          clear hmm
          go_wp2_with fail
          refine HCh.out.mono ?_
          rintro e w4 ⟨rfl, hb⟩
          have HB4 := Lib.hid (HBk.out.trans (hb.mono HBk.out.size))
          clear hb k0 HCh
          go_wp2
          go_roundw
          case rel => exact ⟨q + 1, hh, by omega, by go_num, rfl, HNx, HB4.out⟩
          case measure => simp [intOf]; omega
        · have hmx' : ¬ (M : Int) < hh := by omega
          have hpm : max (M : Int) (hh : Int) = (M : Int) := by omega
          have hmm : max M hh = M := by omega
          rw [hmm] at HNx
          clear hmm
          go_wp2_with fail
          refine HCh.out.mono ?_
          rintro e w4 ⟨rfl, hb⟩
          have HB4 := Lib.hid (HBk.out.trans (hb.mono HBk.out.size))
          clear hb k0 HCh
          go_wp2
          go_roundw
          case rel => exact ⟨q + 1, M, by omega, by go_num, rfl, HNx, HB4.out⟩
          case measure => simp [intOf]; omega
      · have hql' : ¬ (q : Int) < rn := by omega
        have HV := Lib.hid (HHi.out M (by have := HM.out; rwa [show q = ks.length from by have := HRn.out; omega] at this))
        go_wp2
        go_ret
        exact ⟨by rw [HV.out]; exact congrArg (fun z : Int => Ending.returned (Value.int .i64 z)) (show (M : Int) + 1 = ((1 + M : Nat) : Int) by omega), HB3.out⟩
set_option maxRecDepth 100000 in
set_option maxHeartbeats 2000000 in
theorem rHeight_any (v : Value) (l : List Tw) (w : World) (h : TwRow w v l) :
    Calls Tryz.prog 10 #[v] w fun e w' => e = .returned (.int .i64 (heiR l)) ∧ Below w.heap.size w w' := by
  have HT := Lib.hid (rTop_any v l w h)
  have H := Lib.hid h
  have HKs := Lib.hid (show ∀ r ∈ topR l, rightB l = true ∧ r < l.length ∧ hiR l r ≤ l.length from fun r hr => by
    unfold topR at hr
    split at hr
    · rename_i hR
      obtain ⟨rs, hF⟩ := (rightB_iff l).1 hR
      rw [hF.rootsL rfl _ (by have := hF.len_le; omega)] at hr
      have h1 := (hF.root r hr).2
      obtain ⟨m', ks', hs'⟩ := ((rightB_iff l).1 hR).sub h1
      exact ⟨hR, h1, hiR_le hs'⟩
    · cases hr)
  have HHi := Lib.hid (show ∀ M, MxI l (topR l) (topR l).length M → heiR l = M from fun M hM => by
    unfold heiR
    by_cases hR : rightB l = true
    · rw [if_pos hR]
      obtain ⟨rs, hF⟩ := (rightB_iff l).1 hR
      rw [topR_of hR hF] at hM
      have := hM.eq hF
      rw [this]
      rfl
    · rw [if_neg hR]
      have ht : topR l = [] := by unfold topR; rw [if_neg hR]
      rw [ht] at hM
      have := (hM.all 0).2 (fun r hr => by cases hr)
      omega)
  have hl := h.len
  obtain ⟨ao, cap, rfl⟩ := h.at'.val
  obtain ⟨len, hlen⟩ : ∃ len, len = l.length := ⟨_, rfl⟩
  have HLe := Lib.hid hlen
  rw [← hlen] at HT H hl ⊢
  clear h hlen
  go_enter Tryz.func10, Tryz.ntmps10
  go_wp2_with fail
  refine HT.out.mono ?_
  rintro e w2 ⟨v', rfl, ho, hb⟩
  have hnm := ho.nm
  have HB2 := Lib.hid hb
  obtain ⟨ka, kc, rfl, hk1, hk2⟩ := hnm.val
  obtain ⟨rn, hrn⟩ : ∃ rn, rn = (topR l).length := ⟨_, rfl⟩
  have HRn := Lib.hid hrn
  rw [← hrn] at hnm hk1 ⊢
  have hrn2 : rn ≤ 9223372036854775807 := by unfold maxLen at hk2; omega
  have HN := Lib.hid hnm
  clear ho hb hnm hrn hk1 hk2 HT
  go_wp2
  go_loopw [3, 5] (fun s i wr => ∃ (q M : Nat), q ≤ rn ∧ i = .int .i64 q ∧ s = .int .i64 M ∧ Hid (MxI l (topR l) q M) ∧ Below w2.heap.size w2 wr) (fun _ i _ => rn - (intOf i).toNat)
  case atStart => exact ⟨0, 0, by omega, rfl, rfl, Lib.hid (MxI.zero l _), Below.refl _ _⟩
  case round =>
    obtain ⟨q, M, hq, rfl, rfl, HM, hbel⟩ := hrel
    have hMl := HM.out.le (fun r hr => (HKs.out r hr).2.2)
    rw [← HLe.out] at hMl
    have HB3 := Lib.hid (HB2.out.trans (hbel.mono HB2.out.size))
    by_cases hql : q < rn
    · have hql' : (q : Int) < rn := by omega
      have hqR : q < (topR l).length := by rw [← HRn.out]; exact hql
      obtain ⟨kb, ko, rfl, hkb, k0⟩ := (HN.out.later hbel).cells (i := q) hqR
      have hnx := HM.out.next hqR
      have hmem := HKs.out (topR l)[q] (List.getElem_mem _)
      obtain ⟨r, hr⟩ : ∃ r, r = (topR l)[q] := ⟨_, rfl⟩
      rw [← hr] at k0 hmem hnx
      obtain ⟨hr1, hr2, hr3⟩ := hmem
      have HCh := Lib.hid (rHigh_all H.out.len hr1 _ r (Nat.le_refl _) hr2 _ wr (H.out.later HB3.out).at')
      obtain ⟨hh, hhd⟩ : ∃ hh, hh = hiR l r := ⟨_, rfl⟩
      rw [← hhd] at HCh hnx hr3
      rw [← HLe.out] at hr3
      have HNx := Lib.hid hnx
      have HBk := Lib.hid hbel
      clear hr hnx hbel hhd hr2 hkb hr1
      by_cases hmx : M < hh
      · have hmx' : (M : Int) < hh := by omega
        have hpm : max (M : Int) (hh : Int) = (hh : Int) := by omega
        have hmm : max M hh = hh := by omega
        rw [hmm] at HNx
        clear hmm
        go_wp2_with fail
        refine HCh.out.mono ?_
        rintro e w4 ⟨rfl, hb⟩
        have HB4 := Lib.hid (HBk.out.trans (hb.mono HBk.out.size))
        clear hb k0 HCh
        go_wp2
        go_roundw
        case rel => exact ⟨q + 1, hh, by omega, by go_num, rfl, HNx, HB4.out⟩
        case measure => simp [intOf]; omega
      · have hmx' : ¬ (M : Int) < hh := by omega
        have hpm : max (M : Int) (hh : Int) = (M : Int) := by omega
        have hmm : max M hh = M := by omega
        rw [hmm] at HNx
        clear hmm
        go_wp2_with fail
        refine HCh.out.mono ?_
        rintro e w4 ⟨rfl, hb⟩
        have HB4 := Lib.hid (HBk.out.trans (hb.mono HBk.out.size))
        clear hb k0 HCh
        go_wp2
        go_roundw
        case rel => exact ⟨q + 1, M, by omega, by go_num, rfl, HNx, HB4.out⟩
        case measure => simp [intOf]; omega
    · have hql' : ¬ (q : Int) < rn := by omega
      have HV := Lib.hid (HHi.out M (by have := HM.out; rwa [show q = (topR l).length from by have := HRn.out; omega] at this))
      go_wp2
      go_ret
      exact ⟨by rw [HV.out]; rfl, HB3.out⟩
end Go.Proofs.YtadkjjpopmiceaaGreat
