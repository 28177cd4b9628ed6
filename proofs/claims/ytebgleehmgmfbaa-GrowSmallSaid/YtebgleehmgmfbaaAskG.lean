/-
  A growth asks once.
-/
import Derived.Test.YtebgleehmgmfbaaBody
namespace Go.Proofs.Ytebgleehmgmfbaa
open Go.RowKit Go.Lib

def bodyF (sb : Nat) : Value := .func (.func 11) #[.pointer (some ⟨sb, 0, none⟩)] #[]
/-- what a growth may write when it asks. -/
abbrev TA : List TypeId := [35, 51, 36, 77]
def nextFar (n : Nat) (fa far : Int) : Int := if n = 0 then far else max fa far

set_option maxRecDepth 100000 in
set_option maxHeartbeats 4000000 in
theorem ask_any [Watch] {base s m : Nat} {sv : Value} {F : Live} {p : Pr} {f : Fd} {sb gb : Nat} {lev fa : Int} {av rv lv : Value} {rds : List Rd} {gl : List Lnt} {l : List An} (w : World)
    (hs : StIs base w s m sv (F ++ [(p, f)])) (hc : ScIs base w sb s p lev av rv lv rds gl true) (ha : AnsS base w av l) (hg : gl.length = rds.length) (hn : rds.length < 100000) (hf : f.tree.length ≤ 1000000) (ht : (atA l rds.length).tree.length ≤ 1000000)
    (hr : rds.length = 0 ∨ (f.is = true ∧ f.lev ≤ lev ∧ f.tree = (atA l (rds.length - 1)).tree))
    (hgb : w.heap[gb]? = some (.cells #[.pointer (some ⟨s, 0, none⟩), .int .i64 lev, bodyF sb, .int .i64 rds.length, .int .i64 fa] 77 (0, 0))) (hbg : base ≤ gb) :
    Calls Try.prog 37 #[.pointer (some ⟨gb, 0, none⟩)] w fun e w' =>
      ∃ g rv' lv', e = .returned (.tuple #[.agg #[.bool (atA l rds.length).is, .int .i64 (atA l rds.length).en, .int .i64 (atA l rds.length).far, lntv (g, (atA l rds.length).tree)], .int .i64 (atA l rds.length).err]) ∧
        ScIs base w' sb s p lev av rv' lv' (rds ++ [((rdOf f lev).1, (rdOf f lev).2.1, (rdOf f lev).2.2.2)]) (gl ++ [(g, (atA l rds.length).tree)]) true ∧ w.heap.size ≤ g ∧
        w'.heap[gb]? = some (.cells #[.pointer (some ⟨s, 0, none⟩), .int .i64 lev, bodyF sb, .int .i64 (rds.length + 1), .int .i64 (nextFar rds.length fa (atA l rds.length).far)] 77 (0, 0)) ∧ KeepT base TA false w w' := by
  have HB := Lib.hid (fun wq (hb : Below w.heap.size w wq) => body_any wq (hs.later hb) (hc.later hb) (ha.later hb) hg hn hf ht hr)
  have Hn := Lib.hid hn
  have Hgb := Lib.hid hgb
  have Hbg := Lib.hid hbg
  obtain ⟨n, hn0⟩ : ∃ n, n = rds.length := ⟨_, rfl⟩
  rw [← hn0] at HB Hn Hgb ⊢
  clear hn0 hs hc ha hg hn hf ht hr hgb hbg
  generalize atA l n = a at *
  unfold bodyF at Hgb ⊢
  go_enter Try.func37, Try.ntmps37
  go_upto_region 1 with (fail)
  refine gen_world (S := fun u => Below w.heap.size w u ∧ u.heap[w.heap.size]? = some (.cells #[.bool false, .int .i64 0, .int .i64 0, .slice none 0 0] 38 (0, 0))) (one_new w _) (fun u hu => ?_)
  obtain ⟨hb, h1⟩ := hu
  have hgu := (hb.block _ (lt_of_block Hgb.out)).trans Hgb.out
  obtain ⟨c0, c1, c2, c3, c4, f0, f1, f2, f3, f4⟩ := five_box hgu
  have Hb := Lib.hid hb
  have H1 := Lib.hid h1
  have HGu := Lib.hid hgu
  clear hb h1 hgu
  go_wp2_with fail
  refine (HB.out u Hb.out).mono ?_
  rintro e w2 ⟨g, rv', lv', rfl, hsc, hgg, hk⟩
  have h1 := hk.cells H1.out (by decide)
  have hgu := hk.cells HGu.out (by decide)
  have Hsc := Lib.hid hsc
  have Hgg := Lib.hid hgg
  have Hk := Lib.hid (KeepT.trans (KeepT.ofBelow Hb.out) hk)
  clear hsc hgg hk c0 c1 c2 c3 c4 f0 f1 f2 f3 f4 H1 HGu HB
  unfold lntv
  go_upto_region 2 with (fail)
  have hn1 : w.heap.size < w2.heap.size := lt_of_block h1
  have hn2 : gb < w2.heap.size := lt_of_block hgu
  refine gen_world (S := fun v => Below w2.heap.size w2 v ∧ v.heap[w2.heap.size]? = some (.cells #[.bool a.is, .int .i64 a.en, .int .i64 a.far, .slice (some ⟨g, 0, none⟩) a.tree.length (a.tree.length + 12)] 38 (0, 0))) (one_new w2 _) (fun v hv => ?_)
  obtain ⟨hbv, hX⟩ := hv
  have h1v := (hbv.block _ hn1).trans h1
  have hgv := (hbv.block _ hn2).trans hgu
  obtain ⟨c0, c1, c2, c3, c4, f0, f1, f2, f3, f4⟩ := five_box hgv
  obtain ⟨x0, x1, x2, x3, -, -, -, -⟩ := four_box hX
  have Hsv := Lib.hid (Hsc.out.later hbv)
  have Hkv := Lib.hid (KeepT.trans Hk.out (KeepT.ofBelow hbv))
  have H1v := Lib.hid h1v
  have Hgv := Lib.hid hgv
  have HX := Lib.hid hX
  obtain ⟨X, hXe⟩ : ∃ X, X = w2.heap.size := ⟨_, rfl⟩
  rw [← hXe] at x0 x1 x2 x3 HX hn1 hn2 ⊢
  clear hXe hbv h1v hgv hX h1 hgu Hsc Hk
  have Hg1 := Lib.hid (show w.heap.size ≤ g from Nat.le_trans Hb.out.size Hgg.out)
  clear Hgg
  go_upto_if 18 with (fail)
  go_cut [] (fun w1 => (∃ fb, w1.heap[gb]? = some (.cells #[.pointer (some ⟨s, 0, none⟩), .int .i64 lev, .func (.func 11) #[.pointer (some ⟨sb, 0, none⟩)] #[], .int .i64 n, .int .i64 fb] 77 (0, 0)) ∧ (if fb < a.far then a.far else fb) = nextFar n fa a.far) ∧ Keeps (fun k => k = gb) v w1)
  case first =>
    by_cases h0 : n = 0
    · have hz : ((n : Int) == 0) = true := by simp; omega
      have hz2 : decide (n = 0) = true := by simpa using h0
      have Hz := Lib.hid h0
      clear h0
      go_wp2_with fail
      go_meet
      exact ⟨⟨a.far, by exact block_setCell' (k := 4) (u := .int .i64 a.far) Hgv.out, by unfold nextFar; rw [if_pos Hz.out]; simp⟩, (Keeps.refl (fun k => k = gb) v).setCell (p := ⟨gb, 4, none⟩) rfl _⟩
    · have hz : ((n : Int) == 0) = false := by simp; omega
      have hz2 : decide (n = 0) = false := by simpa using h0
      have Hz := Lib.hid h0
      clear h0
      go_wp2_with fail
      go_meet
      exact ⟨⟨fa, Hgv.out, by unfold nextFar; rw [if_neg Hz.out]; split <;> omega⟩, Keeps.refl _ _⟩
  case rest =>
    obtain ⟨⟨fb, hgc, hmax⟩, hkc⟩ := hcut
    clear c0 c1 c2 c3 c4 f0 f1 f2 f3 f4 x0 x1 x2 x3
    obtain ⟨c0, c1, c2, c3, c4, f0, f1, f2, f3, f4⟩ := five_box hgc
    have hXc := hkc.obj HX.out (by omega)
    have hne : w.heap.size ≠ gb := by
      intro e
      have := H1v.out
      rw [e, Hgv.out] at this
      simp at this
    have h1c := hkc.obj H1v.out hne
    obtain ⟨x0, x1, x2, x3, -, -, -, -⟩ := four_box hXc
    obtain ⟨nf, hnf⟩ : ∃ nf, nf = nextFar n fa a.far := ⟨_, rfl⟩
    rw [← hnf] at hmax
    have Hnf := Lib.hid hnf
    have Hkc := Lib.hid hkc
    have Hgc := Lib.hid hgc
    have H1c := Lib.hid h1c
    have HXc := Lib.hid hXc
    have hw : IntKind.i64.wrap ((n : Int) + 1) = (n : Int) + 1 := IntWalk.i64_in _ (by have := Hn.out; omega)
    clear hnf hkc hgc h1c hXc
    go_upto_region 4 with (fail)
    go_cut [] (fun w1 => w1.heap[gb]? = some (.cells #[.pointer (some ⟨s, 0, none⟩), .int .i64 lev, .func (.func 11) #[.pointer (some ⟨sb, 0, none⟩)] #[], .int .i64 (n + 1), .int .i64 nf] 77 (0, 0)) ∧ Keeps (fun k => k = gb) wc w1)
    case first =>
      go_wp2_with fail
      go_region
      all_goals go_wp2_with fail
      all_goals go_meet
      all_goals
        exact ⟨block_setCell' (k := 4) (u := .int .i64 nf) (block_setCell' (k := 3) (u := .int .i64 ((n : Int) + 1)) Hgc.out), (((Keeps.refl (fun k => k = gb) wc).setCell (p := ⟨gb, 3, none⟩) rfl _).setCell (p := ⟨gb, 4, none⟩) rfl _).drew⟩
    case rest =>
      obtain ⟨hgd, hkd⟩ := hcut
      clear c0 c1 c2 c3 c4 f0 f1 f2 f3 f4 x0 x1 x2 x3
      have h1d := hkd.obj H1c.out hne
      have hXd := hkd.obj HXc.out (by omega)
      obtain ⟨x0, x1, x2, x3, -, -, -, -⟩ := four_box hXd
      obtain ⟨r0, r1, r2, r3, k0, k1, k2, k3⟩ := four_box h1d
      have hkk : Keeps (fun k => k = gb) v wc := Hkc.out.trans hkd
      have hT : KeepT 0 [77] false v wc := Keeps.mono hkk fun k _ e => by subst e; exact ⟨Nat.zero_le _, by unfold Tyb; rw [Hgv.out]; simp⟩
      have hTb : KeepT base [77] false v wc := Keeps.mono hkk fun k _ e => by subst e; exact ⟨Hbg.out, by unfold Tyb; rw [Hgv.out]; simp⟩
      have HT := Lib.hid hTb
      have Hsc := Lib.hid (Hsv.out.keepT hT (by decide) (by decide) (by decide) (by decide))
      have Hgd := Lib.hid hgd
      have H1d := Lib.hid h1d
      have Hne := Lib.hid hne
      clear hgd hkd hkk hT hTb h1d hXd hne
      go_wp2
      all_goals
        obtain ⟨q, hq⟩ := set4 H1d.out (.bool a.is) (.int .i64 a.en) (.int .i64 a.far) (.slice (some ⟨g, 0, none⟩) a.tree.length (a.tree.length + 12))
        obtain ⟨q0, q1, q2, q3, -, -, -, -⟩ := four_box q
        have hkq : KeepT 0 [38] false wc _ := Keeps.mono hq fun k _ e => by subst e; exact ⟨Nat.zero_le _, by unfold Tyb; rw [H1d.out]; simp⟩
        have hsc := Hsc.out.keepT hkq (by decide) (by decide) (by decide) (by decide)
        have hg2 := hq.obj Hgd.out (Ne.symm Hne.out)
        rw [Hnf.out] at hg2
        exact bodyPost_ret (v := .tuple #[.agg #[.bool a.is, .int .i64 a.en, .int .i64 a.far, .slice (some ⟨g, 0, none⟩) a.tree.length (a.tree.length + 12)], .int .i64 a.err]) (by simp [results, Try.f37, go_sem, q0, q1, q2, q3]) rfl ⟨g, _, _, rfl, hsc, Hg1.out, hg2, (Keeps.set_new (KeepT.trans (KeepT.mono Hkv.out (by decide) (fun h => h)) (KeepT.mono HT.out (by decide) (fun h => h))) hq (Nat.le_refl _))⟩
end Go.Proofs.Ytebgleehmgmfbaa
