/-
  slices.SortedFunc at things.
-/
import Derived.Test.YtcpcgpanmoellaaHsS
namespace Go.Proofs.Ytcpcgpanmoellaa
open Go.RowKit Go.Lib

set_option maxHeartbeats 1000000 in
theorem sortedFunc_any (Bs base : Nat) (lv : Value) (L : List En) (hle : L.length ≤ 100000) (w : World) (hBs : w.cell? ⟨Bs, 0, none⟩ = some lv) (hr : w.ownsRow base 67 3 lv L.length (L.flatMap enc)) :
    Calls Try.prog 32 #[.func (.func 48) #[] #[.pointer (some ⟨Bs, 0, none⟩)], .func (.func 34) #[] #[]] w fun e W' =>
      ∃ (v : Value) (S : List En), e = .returned v ∧ S.Perm L ∧ S.Pairwise En.le ∧ W'.ownsRow w.heap.size 67 3 v S.length (S.flatMap enc) ∧ Below w.heap.size w W' := by
  have HC := Lib.hid (collect_any Bs base lv L hle w hBs hr)
  clear hBs hr
  go_enter Try.func32, Try.ntmps32
  go_wp2_with fail
  refine HC.out.mono ?_
  rintro e w1 ⟨v, rfl, hown, -, hb⟩
  have HS := Lib.hid (sort_own w1 hle hown)
  have HB := Lib.hid hb
  clear hown hb
  go_wp2_with fail
  refine HS.out.mono ?_
  rintro e w2 ⟨rfl, S, hp, hs, hown, hk⟩
  have HE := Lib.hid (show ∃ S : List En, S.Perm L ∧ S.Pairwise En.le ∧ w2.ownsRow w.heap.size 67 3 v S.length (S.flatMap enc) ∧ Below w.heap.size w w2 from ⟨S, hp, hs, by rw [hp.length_eq]; exact hown, HB.out.trans (hk.below HB.out.size fun k hk => hk)⟩)
  clear hp hs hown hk
  go_wp2
  go_ret
  obtain ⟨S, h⟩ := HE.out
  exact ⟨v, S, rfl, h⟩
end Go.Proofs.Ytcpcgpanmoellaa
