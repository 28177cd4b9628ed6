/-
  A queue in memory, by its list of things: a thing is let go.
-/
import Derived.Test.YtcpcgpanmoellaaHrC
namespace Go.Proofs.Ytcpcgpanmoellaa
open Go.RowKit Go.Lib

theorem dropN_none {M : List En} {x : Int} (h : hasN M x = false) : dropN M x = M := by
  unfold dropN
  rw [List.filter_eq_self]
  intro a ha
  simp only [bne_iff_ne, ne_eq]
  intro hn
  have : hasN M x = true := hasN_iff.2 ⟨a, ha, hn⟩
  rw [h] at this
  simp at this
theorem moveN_none {M : List En} {x k : Int} (h : hasN M x = false) : moveN M x k = M := by
  unfold moveN
  refine (List.map_congr_left fun a ha => ?_).trans (List.map_id _)
  rw [if_neg]
  · rfl
  · intro hn
    have : hasN M x = true := hasN_iff.2 ⟨a, ha, hn⟩
    rw [h] at this
    simp at this
set_option maxRecDepth 100000 in
set_option maxHeartbeats 2000000 in
theorem quDrop [Watch] {base : Nat} {q : Nat} {t : Int} {M : List En} (x : Int) (w : World) (h : Qu base w q t M) (hx : (kx x).wf = true) :
    Calls Try.prog 11 #[.pointer (some ⟨q, 0, none⟩), .int .i64 x] w fun en w' => en = .returned (.bool (hasN M x)) ∧ Qu base w' q t (dropN M x) ∧ KeepQ base q w w' := by
  have HTrn := Lib.hid h.trn
  have HQ := Lib.hid h
  obtain ⟨⟨r, m, lv, L, h1, h2⟩, h3⟩ := h
  have HH := Lib.hid (qHas_any x w h1 hx)
  rw [whr_has] at HH
  cases hb : hasN M x with
  | false =>
    rw [hasN_perm h2, hb] at HH
    have HM := Lib.hid (dropN_none hb)
    clear h1 h2 h3 hx hb
    go_enter Try.func11, Try.ntmps11
    go_wp2_with fail
    refine HH.out.mono ?_
    rintro en w1 ⟨c, rfl, -, rfl⟩
    go_wp2
    go_ret
    exact ⟨rfl, by rw [HM.out]; exact HQ.out, Keeps.refl _ _⟩
  | true =>
    rw [hasN_perm h2, hb] at HH
    obtain ⟨i, hw⟩ := Option.isSome_iff_exists.1 ((whr_has L x).trans ((hasN_perm h2 x).trans hb))
    obtain ⟨hi, hn⟩ := whr_is hw
    rw [hw] at HH
    obtain ⟨n, hl⟩ : ∃ n, L.length = n + 1 := ⟨L.length - 1, by omega⟩
    obtain ⟨c0, -⟩ := two_box h1.blk
    have HR := Lib.hid (hRemove_any i w h1.row h1.hp hl (by omega))
    have H1 := Lib.hid h1
    have H2 := Lib.hid h2
    have Hn := Lib.hid hn
    clear h1 h2 h3 hx hb hw hi hn hl
    go_enter Try.func11, Try.ntmps11
    go_wp2_with fail
    refine HH.out.mono ?_
    rintro en w1 ⟨c, rfl, hc, rfl⟩
    rw [hc i rfl]
    clear hc
    go_wp2_with fail
    refine HR.out.mono ?_
    rintro en w4 ⟨rfl, lv', L2, hr, hh, hp, hk⟩
    have hq4 := hk.cells H1.out.blk (by decide)
    have HE := Lib.hid (show Qu base w4 q t (dropN M x) ∧ KeepQ base q w w4 from ⟨⟨⟨r, m, lv', L2, ⟨hq4, hr, hh, fun a ha => H1.out.trn a (hp.mem_iff.1 (List.mem_append_left _ ha)), H1.out.bq⟩, by rw [← Hn.out]; exact drop_perm HTrn.out.once (hp.trans H2.out)⟩, HTrn.out.drop _⟩, KeepQ.ofH hk⟩)
    clear hr hh hp hk hq4
    go_wp2
    go_ret
    exact ⟨rfl, HE.out⟩
end Go.Proofs.Ytcpcgpanmoellaa
