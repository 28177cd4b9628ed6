/-
  Place: 'tells'.
-/
import Derived.Test.YthapnknhodjepaaS
namespace Go.Proofs.Ythapnknhodjepaa
open Go.RowKit

set_option maxRecDepth 100000 in
set_option maxHeartbeats 2000000 in
theorem tells_any (x : Nat) (v : Value) (t : List UInt8) (p l c : Int) (w : World) (h : TxtAt w x t) (ht : BytesAt w v t) (hl : t.length ≤ 1000000) :
    Calls Try.prog 16 #[.pointer (some ⟨x, 0, none⟩), v, .int .i64 p, .int .i64 l, .int .i64 c] w fun e w' => e = .returned (.bool true) ∧ Below w.heap.size w w' := by
  have Ht := Lib.hid ht
  have Hx := Lib.hid h
  clear h
  obtain ⟨ao, b, off, cap, hv, hlc, hm, _, _, _⟩ := ht
  obtain ⟨n, hn⟩ : ∃ n, n = t.length := ⟨_, rfl⟩
  rw [← hn] at hlc hv
  subst hv
  have Hn := Lib.hid hn
  have HLn := Lib.hid (nls_length t t.length)
  clear hn
  go_enter Try.func16, Try.ntmps16
  go_wp2_with fail
  refine (at_tot x t p _ Hx.out hl).mono ?_
  rintro e w1 ⟨rfl, hb1⟩
  go_wp2_with fail
  refine (refAt_any _ t p _ (Ht.out.later hb1) hl).mono ?_
  rintro e w2 ⟨rfl, rfl⟩
  go_wp2_with fail
  refine (place_tot x t l c _ (Hx.out.later hb1) hl).mono ?_
  rintro e w3 ⟨rfl, hb3⟩
  go_wp2_with fail
  refine (refPlace_any _ t l c _ ((Ht.out.later hb1).later hb3) hl).mono ?_
  rintro e w4 ⟨rfl, rfl⟩
  go_wp2_with fail
  refine (line_tot x t l _ ((Hx.out.later hb1).later hb3)).mono ?_
  rintro e w5 ⟨rfl, hb5⟩
  go_wp2_with fail
  refine (refLine_any _ t l _ (((Ht.out.later hb1).later hb3).later hb5) hl).mono ?_
  rintro e w6 ⟨rfl, rfl⟩
  go_wp2_with fail
  refine (lines_yes x _ _ _ (((Hx.out.later hb1).later hb3).later hb5)).mono ?_
  rw [HLn.out]
  rintro e w7 ⟨rfl, rfl⟩
  go_wp2_with fail
  refine (refLines_any _ t _ (((Ht.out.later hb1).later hb3).later hb5) hl).mono ?_
  rintro e w7 ⟨rfl, rfl⟩
  go_wp2_with fail
  refine (len_yes x _ _ _ (((Hx.out.later hb1).later hb3).later hb5)).mono ?_
  rw [← Hn.out]
  rintro e w7 ⟨rfl, rfl⟩
  go_wp2
  go_ret
  exact ⟨rfl, (hb1.trans (hb3.mono hb1.size)).trans (hb5.mono (Nat.le_trans hb1.size hb3.size))⟩

end Go.Proofs.Ythapnknhodjepaa
