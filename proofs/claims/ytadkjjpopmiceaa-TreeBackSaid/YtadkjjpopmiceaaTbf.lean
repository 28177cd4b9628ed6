/-
  TreePath: the walk.
-/
import Derived.Test.YtadkjjpopmiceaaTbe
namespace Go.Proofs.Ytadkjjpopmiceaa
open Go.RowKit Go.Lib

theorem PaI.at {l : List Tw} {pl : Int} {P rs : List Nat} {s e k : Nat} (h : PaI l pl P (P.take k) rs s e) (hk : k < P.length) : ∃ m ks, Sub l P[k] m ks ∧ PaI l pl P (P.take (k + 1)) ks (P[k] + 1) m ∧ P[k] < l.length ∧ anyN rs P[k] = true ∧ hasB (atT l P[k]) pl = true := by
  cases hf : rs.find? (fun r => shB (atT l r).fr (atT l r).to pl) with
  | none =>
    have := congrArg List.length (h.stop hf)
    rw [List.length_take] at this
    omega
  | some x =>
    obtain ⟨lo, hi, a, hF⟩ := h.frs
    have hf2 := hf
    rw [hF.findP] at hf2
    obtain ⟨m, ks, hs, hn, h1, h2⟩ := h.next hf
    have hx : P[k] = x := by
      have hp := hn.path
      have : P[k]? = some x := by
        rw [hp, List.append_assoc, List.getElem?_append_right (by rw [List.length_take]; omega), List.length_take, Nat.min_eq_left (by omega), Nat.sub_self]
        rfl
      rw [List.getElem?_eq_getElem hk] at this
      simpa using this
    rw [hx]
    refine ⟨m, ks, hs, ?_, h2, ?_, List.find?_some (p := fun r => hasB (atT l r) pl) hf2⟩
    · rw [List.take_add_one, List.getElem?_eq_getElem hk, hx]
      exact hn
    · simp only [anyN, List.any_eq_true]
      exact ⟨x, List.mem_of_find?_eq_some hf2, by simp⟩
theorem PaI.over {l : List Tw} {pl : Int} {P rs : List Nat} {s e k : Nat} (h : PaI l pl P (P.take k) rs s e) (hk : P.length ≤ k) : ∀ r ∈ rs, hasB (atT l r) pl = false ∧ r < l.length := by
  obtain ⟨lo, hi, a, hF⟩ := h.frs
  have hp := h.path
  rw [List.take_of_length_le hk] at hp
  have h0 : onP l pl s e = [] := by
    have := congrArg List.length hp
    rw [List.length_append] at this
    exact List.eq_nil_of_length_eq_zero (by omega)
  intro r hr
  refine ⟨?_, by have := (hF.root r hr).2; have := h.end'; omega⟩
  have := hF.path pl
  rw [h0] at this
  cases hf : rs.find? (fun r => hasB (atT l r) pl) with
  | none => simpa using List.find?_eq_none.1 hf r hr
  | some x => rw [hf] at this; simp at this
theorem path_start {l : List Tw} (h : rightB l = true) (pl : Int) : PaI l pl (pathR l pl) ((pathR l pl).take 0) (topR l) 0 l.length := by
  obtain ⟨rs, hF⟩ := (rightB_iff l).1 h
  rw [topR_of h hF]
  exact ⟨⟨_, _, _, hF⟩, by unfold pathR; rw [if_pos h]; simp, by simp, Nat.le_refl _, Nat.zero_le _⟩
theorem path_high {l : List Tw} (h : rightB l = true) (pl : Int) : (pathR l pl).length ≤ heiR l := by
  obtain ⟨rs, hF⟩ := (rightB_iff l).1 h
  unfold pathR heiR
  rw [if_pos h, if_pos h]
  exact hF.path_dep pl
theorem heiR_le (l : List Tw) : heiR l ≤ l.length := by
  unfold heiR
  split
  · rw [mxd_le]
    intro i h1 h2
    unfold dep
    refine Nat.le_trans (List.length_filter_le _ _) ?_
    rw [List.length_range']
    omega
  · omega
theorem kidsR_of {l : List Tw} {n m : Nat} {ks : List Nat} (h : rightB l = true) (hs : Sub l n m ks) : kidsR l n = ks := by
  unfold kidsR hasR
  have := hs.lt
  rw [h, show decide ((0 : Int) ≤ (n : Int) ∧ (n : Int) < l.length) = true from by simp; omega]
  simp only [Bool.and_true, if_true, Int.toNat_natCast]
  exact kidR_of hs
theorem atT_get' {l : List Tw} {n : Nat} (h : n < l.length) : atT l n = l[n] := by simp [atT, h]
/-- a twig's span in memory. -/
theorem TwAt.span {w : World} {ao : Option Addr} {n cap : Nat} {l : List Tw} (h : TwAt w (.slice ao n cap) l) {i : Nat} (hi : i < l.length) : ∃ b off, ao = some ⟨b, off, none⟩ ∧ b < w.heap.size ∧
    w.cell? ⟨b, off + i * 5 + 2, none⟩ = some (.int .i64 (atT l i).fr) ∧ w.cell? ⟨b, off + i * 5 + 3, none⟩ = some (.int .i64 (atT l i).to) ∧ w.cell? ⟨b, off + i * 5 + 4, none⟩ = some (.int .i64 (atT l i).kids) := by
  obtain ⟨b, off, h1, h2, -, -, h3, h4, h5⟩ := h.cells.2.2.2.2 i hi
  rw [atT_get' hi]
  exact ⟨b, off, h1, h2, h3, h4, h5⟩
theorem NmAt.val {w : World} {v : Value} {l : List Nat} (h : NmAt w v l) : ∃ ao cap, v = .slice ao l.length cap ∧ l.length ≤ cap ∧ cap ≤ maxLen := by
  obtain ⟨ao, cap, h0, h1, h2, -⟩ := h
  exact ⟨ao, cap, h0, h1, h2⟩
theorem NmAt.cells {w : World} {ao : Option Addr} {n cap : Nat} {l : List Nat} (h : NmAt w (.slice ao n cap) l) {i : Nat} (hi : i < l.length) : ∃ b off, ao = some ⟨b, off, none⟩ ∧ b < w.heap.size ∧ w.cell? ⟨b, off + i, none⟩ = some (.int .i64 (l[i] : Int)) := by
  obtain ⟨ao', cap', h0, -, -, h1⟩ := h
  simp only [Value.slice.injEq] at h0
  obtain ⟨rfl, -, rfl⟩ := h0
  exact h1 i hi
theorem NmAt.len {w : World} {ao : Option Addr} {n cap : Nat} {l : List Nat} (h : NmAt w (.slice ao n cap) l) : n = l.length ∧ n ≤ cap ∧ cap ≤ 9223372036854775807 := by
  obtain ⟨ao', cap', h0, h1, h2, -⟩ := h
  simp only [Value.slice.injEq] at h0
  obtain ⟨rfl, rfl, rfl⟩ := h0
  exact ⟨rfl, h1, by unfold maxLen at h2; omega⟩
set_option maxRecDepth 100000 in
set_option maxHeartbeats 4000000 in
theorem treePath_main (v : Value) (l : List Tw) (pl : Int) (w : World) (h : TwAt w v l) (hok : ∀ t ∈ l, twOk t) (hz : l.length ≤ 140737488355328) :
    Calls Try.prog 3 #[v, .int .i64 pl] w fun e w' => e = .returned (.bool true) ∧ Below w.heap.size w w' := by
  have HAw := Lib.hid (awake_any w)
  obtain ⟨ao, cap, rfl⟩ := h.val
  have H := Lib.hid h
  have HOk := Lib.hid hok
  have hcap := h.cells.2.1
  have hcm := h.cells.2.2.1
  obtain ⟨len, hlen⟩ : ∃ len, len = l.length := ⟨_, rfl⟩
  rw [← hlen] at hz hcap H ⊢
  have HLe := Lib.hid hlen
  unfold maxLen at hcm
  clear h hlen hok
  go_enter Try.func3, Try.ntmps3
  go_wp2_with fail
  refine HAw.out.mono ?_
  rintro e w1 ⟨rfl, hb⟩
  have HB1 := Lib.hid hb
  have HT1 := Lib.hid (H.out.later hb)
  clear hb HAw
  by_cases hm : len ≤ 120
  · have hm2 : ¬ (120 : Int) < len := by omega
    have HT := Lib.hid (TwRow.mk HT1.out HOk.out (by rw [← HLe.out]; omega))
    have HR := Lib.hid (right_any _ l w1 HT1.out HOk.out (by rw [← HLe.out]; omega))
    cases hr : rightB l
    · rw [hr] at HR
      clear hr
      go_wp2_with fail
      refine HR.out.mono ?_
      rintro e w2 ⟨rfl, hb⟩
      go_wp2
      go_ret
      exact ⟨rfl, HB1.out.trans (hb.mono HB1.out.size)⟩
    · have HRi := Lib.hid hr
      rw [hr] at HR
      clear hr
      go_wp2_with fail
      refine HR.out.mono ?_
      rintro e w2 ⟨rfl, hb⟩
      have HB2 := Lib.hid (HB1.out.trans (hb.mono HB1.out.size))
      have HT2 := Lib.hid (HT.out.later hb)
      clear hb
      go_wp2_with fail
      refine (tPath_any _ pl _ HT2.out).mono ?_
      rintro e w3 ⟨vp, rfl, ho, hb⟩
      have HB3 := Lib.hid (HB2.out.trans (hb.mono HB2.out.size))
      have HT3 := Lib.hid (HT2.out.later hb)
      have HP3 := Lib.hid ho.nm
      obtain ⟨pa, pc, rfl, hp1, hp2⟩ := ho.nm.val
      obtain ⟨P, hP⟩ : ∃ P, P = pathR l pl := ⟨_, rfl⟩
      have HS := Lib.hid (path_start HRi.out pl)
      have HHi := Lib.hid (path_high HRi.out pl)
      rw [← hP] at HP3 hp1 HS HHi ⊢
      obtain ⟨m, hmP⟩ : ∃ m, m = P.length := ⟨_, rfl⟩
      rw [← hmP] at HP3 hp1 HHi ⊢
      have HMp := Lib.hid hmP
      unfold maxLen at hp2
      clear ho hb hP hmP
      go_wp2_with fail
      refine (tRoots_any _ _ HT3.out).mono ?_
      rintro e w4 ⟨vn, rfl, ho, hb⟩
      have HB4 := Lib.hid (HB3.out.trans (hb.mono HB3.out.size))
      have HT4 := Lib.hid (HT3.out.later hb)
      have HP4 := Lib.hid (HP3.out.later hb)
      have HN4 := Lib.hid ho.nm
      obtain ⟨na, nc, rfl, -, -⟩ := ho.nm.val
      obtain ⟨tn, htn⟩ : ∃ tn, tn = (topR l).length := ⟨_, rfl⟩
      rw [← htn] at HN4 ⊢
      clear ho hb htn
      go_wp2
      go_loopw [6, 7] (fun va i wr => ∃ (k : Nat) (rs : List Nat) (s e : Nat), k ≤ m ∧ i = .int .i64 k ∧ NmAt wr va rs ∧ Hid (PaI l pl P (P.take k) rs s e) ∧ Below w4.heap.size w4 wr) (fun _ i _ => m - (intOf i).toNat)
      case atStart => exact ⟨0, _, _, _, by omega, rfl, HN4.out, HS, Below.refl _ _⟩
      case round =>
        obtain ⟨k, rs, s, e, hk, rfl, hN, HI, hbel⟩ := hrel
        obtain ⟨ra, rc, rfl, -, -⟩ := hN.val
        have HN := Lib.hid hN
        have HBr := Lib.hid hbel
        have HTr := Lib.hid (HT4.out.later hbel)
        have HPr := Lib.hid (HP4.out.later hbel)
        obtain ⟨rn, hrn⟩ : ∃ rn, rn = rs.length := ⟨_, rfl⟩
        rw [← hrn] at HN ⊢
        have HRn := Lib.hid hrn
        clear hN hbel hrn
        by_cases hlt : k < m
        · have hlt' : (k : Int) < m := by omega
          have hkP : k < P.length := by rw [← HMp.out]; exact hlt
          obtain ⟨m2, ks, hs, hn, hx, hany, hhas⟩ := HI.out.at hkP
          obtain ⟨x, hxe⟩ : ∃ x, x = P[k] := ⟨_, rfl⟩
          obtain ⟨b, off, rfl, -, c0⟩ := HPr.out.cells hkP
          rw [← hxe] at hs hn hx hany hhas c0
          obtain ⟨tb, toff, rfl, -, c1, c2, -⟩ := HTr.out.at'.span hx
          rw [← HLe.out] at hx
          have hx' : (x : Int) < len := by omega
          have hx0 : (0 : Int) ≤ x := by omega
          have HH := Lib.hid (lawHas_any _ rs x wr HN.out)
          rw [hany] at HH
          simp only [hasB, decide_eq_true_eq] at hhas
          obtain ⟨hh1, hh2⟩ := hhas
          have hh1' : ¬ pl < (atT l x).fr := by omega
          have hh2' : ¬ (atT l x).to ≤ pl := by omega
          obtain ⟨fr, hfr⟩ : ∃ fr, fr = (atT l x).fr := ⟨_, rfl⟩
          obtain ⟨tz, htz⟩ : ∃ tz, tz = (atT l x).to := ⟨_, rfl⟩
          rw [← hfr] at c1 hh1 hh1'
          rw [← htz] at c2 hh2 hh2'
          have HNx := Lib.hid hn
          have HKs := Lib.hid (kidsR_of HRi.out hs)
          clear hs hn hany hfr htz hxe
          go_wp2_with fail
          refine HH.out.mono ?_
          rintro e w5 ⟨rfl, hb⟩
          have HB5 := Lib.hid (HBr.out.trans (hb.mono HBr.out.size))
          have HT5 := Lib.hid (HTr.out.later hb)
          have c1 := cell_later hb c1
          have c2 := cell_later hb c2
          clear hb c0
          go_wp2_with fail
          have hK := tKids_any _ x _ HT5.out
          rw [HKs.out] at hK
          refine hK.mono ?_
          rintro e w6 ⟨vk, rfl, ho, hb⟩
          have HN6 := Lib.hid ho.nm
          have HB6 := Lib.hid (HB5.out.trans (hb.mono HB5.out.size))
          obtain ⟨ka, kc, rfl, -, -⟩ := ho.nm.val
          obtain ⟨kn, hkn⟩ : ∃ kn, kn = ks.length := ⟨_, rfl⟩
          rw [← hkn] at HN6 ⊢
          clear ho hb hK hkn c1 c2
          go_wp2
          go_roundw
          case rel => exact ⟨k + 1, ks, x + 1, m2, by omega, by go_num, HN6.out, HNx, HB6.out⟩
          case measure => simp [intOf]; omega
        · have hlt' : ¬ (k : Int) < m := by omega
          have HOv := Lib.hid (HI.out.over (by rw [← HMp.out]; omega))
          have hrc := HN.out.len
          obtain ⟨-, hrc1, hrc2⟩ := hrc
          go_wp2
          go_loopw [9] (fun i wr2 => ∃ j : Nat, j ≤ rn ∧ i = .int .i64 j ∧ Below wr.heap.size wr wr2) (fun i _ => rn - (intOf i).toNat)
          case atStart => exact ⟨0, by omega, rfl, Below.refl _ _⟩
          case round =>
            obtain ⟨j, hj, rfl, hbel⟩ := hrel
            have HBj := Lib.hid (HBr.out.trans (hbel.mono HBr.out.size))
            have HTj := Lib.hid (HTr.out.later hbel)
            by_cases hjl : j < rn
            · have hjl' : (j : Int) < rn := by omega
              have hjr : j < rs.length := by rw [← HRn.out]; exact hjl
              obtain ⟨b, off, rfl, -, c0⟩ := (HN.out.later hbel).cells hjr
              obtain ⟨hno, hx⟩ := HOv.out _ (List.getElem_mem hjr)
              obtain ⟨x, hxe⟩ : ∃ x, x = rs[j] := ⟨_, rfl⟩
              rw [← hxe] at hno hx c0
              obtain ⟨tb, toff, rfl, -, c1, c2, -⟩ := HTj.out.at'.span hx
              rw [← HLe.out] at hx
              have hx' : (x : Int) < len := by omega
              have hx0 : (0 : Int) ≤ x := by omega
              simp only [hasB, decide_eq_false_iff_not, not_and, Int.not_lt] at hno
              obtain ⟨fr, hfr⟩ : ∃ fr, fr = (atT l x).fr := ⟨_, rfl⟩
              obtain ⟨tz, htz⟩ : ∃ tz, tz = (atT l x).to := ⟨_, rfl⟩
              rw [← hfr] at c1 hno
              rw [← htz] at c2 hno
              clear hfr htz hxe
              by_cases hp : fr ≤ pl
              · have hp2 : ¬ pl < tz := by have := hno hp; omega
                clear hno
                go_wp2_with fail
                go_roundw
                case rel => exact ⟨j + 1, by omega, by go_num, hbel⟩
                case measure => simp [intOf]; omega
              · clear hno
                go_wp2_with fail
                go_roundw
                case rel => exact ⟨j + 1, by omega, by go_num, hbel⟩
                case measure => simp [intOf]; omega
            · have hjl' : ¬ (j : Int) < rn := by omega
              have hH := tHeight_any _ _ HTj.out
              obtain ⟨hg, hhg⟩ : ∃ hg, hg = heiR l := ⟨_, rfl⟩
              have hle := HHi.out
              have hl3 := heiR_le l
              rw [← hhg] at hH hle hl3
              rw [← HLe.out] at hl3
              have hle2 : (m : Int) ≤ hg := by omega
              have HH := Lib.hid hH
              clear hH hhg
              go_wp2_with fail
              refine HH.out.mono ?_
              rintro e w7 ⟨rfl, hb⟩
              go_wp2
              go_ret
              exact ⟨rfl, HB4.out.trans ((HBj.out.trans (hb.mono HBj.out.size)).mono HB4.out.size)⟩
  · have hm2 : (120 : Int) < len := by omega
    go_wp2
    go_ret
    exact ⟨rfl, HB1.out⟩
end Go.Proofs.Ytadkjjpopmiceaa
