/-
  A queue: a thing's key.
-/
import Derived.Test.YtcpcgpanmoellaaHqB
namespace Go.Proofs.Ytcpcgpanmoellaa
open Go.RowKit Go.Lib

set_option maxHeartbeats 1000000 in
theorem qKey_any [Watch] {base : Nat} {qb r m : Nat} {t : Int} {lv : Value} {L : List En} (x : Int) (w : World) (h : QuIs base w qb r m t lv L) (hx : (kx x).wf = true) :
    Calls Try.prog 14 #[.pointer (some ⟨qb, 0, none⟩), .int .i64 x] w fun e w' => e = .returned (.tuple #[.int .i64 (match whr L x with | some i => (pos L i).key | none => 0), .bool (whr L x).isSome]) ∧ w = w' := by
  have HH := Lib.hid (qHas_any x w h hx)
  obtain ⟨c0, -⟩ := two_box h.blk
  obtain ⟨d0, -, -⟩ := h.row.cells
  cases hw : whr L x with
  | none =>
    rw [hw] at HH
    clear h
    simp only [Option.isSome_none] at HH ⊢
    go_enter Try.func14, Try.ntmps14
    go_wp2_with fail
    refine HH.out.mono ?_
    rintro e w1 ⟨c, rfl, -, rfl⟩
    go_wp2
    exact bodyPost_ret (v := .tuple #[.int .i64 0, .bool false]) (by simp [results, Try.f14, go_sem]) rfl ⟨rfl, rfl⟩
  | some i =>
    obtain ⟨hi, -⟩ := whr_is hw
    obtain ⟨g, cap, rfl⟩ := own_shape h.row.row (by omega)
    obtain ⟨⟨a0, -, -⟩, -⟩ := row3 h.row.row i hi
    rw [hw] at HH
    have hle := h.row.le
    obtain ⟨n, hn⟩ : ∃ n, n = L.length := ⟨_, rfl⟩
    rw [← hn] at d0 hi hle
    have hi' : (i : Int) < n := by omega
    clear h hn
    simp only [Option.isSome_some] at HH ⊢
    go_enter Try.func14, Try.ntmps14
    go_wp2_with fail
    refine HH.out.mono ?_
    rintro e w1 ⟨c, rfl, hc, rfl⟩
    rw [hc i rfl]
    clear hc
    go_wp2
    exact bodyPost_ret (v := .tuple #[.int .i64 (pos L i).key, .bool true]) (by simp [results, Try.f14, go_sem]) rfl ⟨rfl, rfl⟩
end Go.Proofs.Ytcpcgpanmoellaa
