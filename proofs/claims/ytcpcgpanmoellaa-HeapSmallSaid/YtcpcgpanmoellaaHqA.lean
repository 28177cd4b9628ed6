/-
  A queue in memory: what only looks at it.
-/
import Derived.Test.YtcpcgpanmoellaaHpK
namespace Go.Proofs.Ytcpcgpanmoellaa
open Go.RowKit Go.Lib

/-- a queue. -/
structure QuIs [Watch] (base : Nat) (w : World) (qb r m : Nat) (t : Int) (lv : Value) (L : List En) : Prop where
  blk : w.heap[qb]? = some (.cells #[.pointer (some ⟨r, 0, none⟩), .int .i64 t] 64 (0, 0))
  row : RowIs base w r m lv L
  hp : Hp (pos L) L.length
  trn : ∀ e ∈ L, e.turn < t
  bq : base ≤ qb
theorem QuIs.later [Watch] {base : Nat} {w w' : World} {qb r m : Nat} {t : Int} {lv : Value} {L : List En} (h : QuIs base w qb r m t lv L) (hb : Below w.heap.size w w') : QuIs base w' qb r m t lv L :=
  ⟨(hb.block _ (lt_of_block h.blk)).trans h.blk, h.row.later hb, h.hp, h.trn, h.bq⟩
set_option maxHeartbeats 400000 in
theorem qMade_any [Watch] {base : Nat} {qb r m : Nat} {t : Int} {lv : Value} {L : List En} (w : World) (h : QuIs base w qb r m t lv L) : Calls Try.prog 23 #[.pointer (some ⟨qb, 0, none⟩)] w fun e w' => e = .returned (.bool true) ∧ w = w' := by
  obtain ⟨c0, -⟩ := two_box h.blk
  clear h
  go_enter Try.func23, Try.ntmps23
  go_wp2
  go_ret
  exact ⟨rfl, rfl⟩
set_option maxHeartbeats 1000000 in
theorem qHas_any [Watch] {base : Nat} {qb r m : Nat} {t : Int} {lv : Value} {L : List En} (x : Int) (w : World) (h : QuIs base w qb r m t lv L) (hx : (kx x).wf = true) :
    Calls Try.prog 24 #[.pointer (some ⟨qb, 0, none⟩), .int .i64 x] w fun e w' => ∃ c, e = .returned (.tuple #[.int .i64 c, .bool (whr L x).isSome]) ∧ (∀ i : Nat, whr L x = some i → c = i) ∧ w = w' := by
  have HM := Lib.hid (qMade_any w h)
  obtain ⟨c0, -⟩ := two_box h.blk
  obtain ⟨-, d1, -⟩ := h.row.cells
  obtain ⟨c, hl, hc⟩ := h.row.fn.look hx
  have HC := Lib.hid hc
  obtain ⟨b, hb⟩ : ∃ b, b = (whr L x).isSome := ⟨_, rfl⟩
  rw [← hb] at hl ⊢
  clear h hc hb
  go_enter Try.func24, Try.ntmps24
  go_wp2_with fail
  refine HM.out.mono ?_
  rintro e w1 ⟨rfl, rfl⟩
  go_wp2
  refine bodyPost_ret (v := .tuple #[.int .i64 c, .bool b]) (by simp [results, Try.f24, go_sem]) rfl ?_
  exact ⟨c, rfl, HC.out, rfl⟩
end Go.Proofs.Ytcpcgpanmoellaa
