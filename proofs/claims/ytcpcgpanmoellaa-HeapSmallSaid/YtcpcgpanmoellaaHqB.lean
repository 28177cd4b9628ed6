/-
  A queue: how long.
-/
import Derived.Test.YtcpcgpanmoellaaHqA
namespace Go.Proofs.Ytcpcgpanmoellaa
open Go.RowKit Go.Lib

set_option maxHeartbeats 400000 in
theorem qLen_any [Watch] {base : Nat} {qb r m : Nat} {t : Int} {lv : Value} {L : List En} (w : World) (h : QuIs base w qb r m t lv L) : Calls Try.prog 15 #[.pointer (some ⟨qb, 0, none⟩)] w fun e w' => e = .returned (.int .i64 L.length) ∧ w = w' := by
  have HM := Lib.hid (qMade_any w h)
  have HL := Lib.hid (rLen_any w h.row)
  obtain ⟨c0, -⟩ := two_box h.blk
  obtain ⟨n, hn⟩ : ∃ n, n = L.length := ⟨_, rfl⟩
  rw [← hn] at HL ⊢
  clear h hn
  go_enter Try.func15, Try.ntmps15
  go_wp2_with fail
  refine HM.out.mono ?_
  rintro e w1 ⟨rfl, rfl⟩
  go_wp2_with fail
  refine HL.out.mono ?_
  rintro e w1 ⟨rfl, rfl⟩
  go_wp2
  go_ret
  exact ⟨rfl, rfl⟩
end Go.Proofs.Ytcpcgpanmoellaa
