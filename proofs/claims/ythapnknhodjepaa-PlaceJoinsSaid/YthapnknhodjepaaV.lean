/-
  Place: PlaceTells, the walk.
-/
import Derived.Test.YthapnknhodjepaaU
import Derived.Test.YthapnknhodjepaaT
namespace Go.Proofs.Ythapnknhodjepaa
open Go.RowKit

/-- the list that was lent is a list of bytes. -/
theorem LentAt.bytes {w : World} {g : Nat} {t : List UInt8} (h : LentAt w g t) (hl : t.length ≤ 1000000) : BytesAt w (.slice (some ⟨g, 0, none⟩) t.length (t.length + 12)) t := by
  refine ⟨_, g, 0, _, rfl, by omega, by unfold maxLen; omega, fun h => by simp at h, fun _ => rfl, fun k hk => ?_⟩
  have := h.cell k (by omega)
  simp only [Nat.zero_add]
  rw [this]
  simp only [bmk]; rw [List.getElem_append_left]
theorem LentAt.later {w w' : World} {g : Nat} {t : List UInt8} (h : LentAt w g t) (hb : Below w.heap.size w w') : LentAt w' g t := by
  unfold LentAt at *
  rw [hb.block g (lt_of_block h), h]
theorem below_of_grown {w w1 w2 : World} {g : Nat} (h : Below w.heap.size w w1) (hg : w1.grownBy w2 (some g)) (hgw : w.heap.size ≤ g) : Below w.heap.size w w2 :=
  h.grown hg h.size (fun k hk => by simp at hk; omega)

set_option maxHeartbeats 1000000 in
theorem placeTells_any (v : Value) (t : List UInt8) (p l c : Int) (w : World) (ht : BytesAt w v t) :
    Calls Try.prog 4 #[v, .int .i64 p, .int .i64 l, .int .i64 c] w fun e w' => e = .returned (.bool true) ∧ Below w.heap.size w w' := by
  have Ht := Lib.hid ht
  obtain ⟨ao, b, off, cap, hv, hlc, hm, _, _, _⟩ := ht
  obtain ⟨n, hn⟩ : ∃ n, n = t.length := ⟨_, rfl⟩
  rw [← hn] at hlc hv
  subst hv
  have Hn := Lib.hid hn
  clear hn
  unfold maxLen at hm
  by_cases hbig : 2000 < n
  · go_enter Try.func4, Try.ntmps4
    go_wp2_with (go_at_call 7; refine (awake_any _).mono ?_; rintro e w1 ⟨rfl, hb1⟩)
    go_ret
    exact ⟨rfl, hb1⟩
  · have hl : t.length ≤ 1000000 := by rw [← Hn.out]; omega
    have Hl := Lib.hid hl
    clear hl
    go_enter Try.func4, Try.ntmps4
    go_wp2_with fail
    refine (lentBytes_any _ t w Ht.out Hl.out).mono ?_
    rw [← Hn.out]
    rintro e w1 ⟨rfl, hL1, hb1⟩
    have HL1 := Lib.hid hL1
    clear hL1
    have hg1 := lt_of_block HL1.out
    go_wp2_with fail
    refine (new_from _ t _ (by have := HL1.out.bytes Hl.out; rw [← Hn.out] at this; exact this) Hl.out).mono ?_
    rintro e w2 ⟨x, rfl, hx, hi2, hb2⟩
    have Hi2 := Lib.hid hi2
    clear hi2
    have HL2 := Lib.hid (HL1.out.later hb2)
    have hb02 := hb1.trans (hb2.mono hb1.size)
    have hk := keptBytes_any _ t w.heap.size w2 (Ht.out.later hb02) HL2.out Hl.out
    rw [← Hn.out] at hk
    have Hk := Lib.hid hk
    clear hk
    go_wp2_with fail
    refine Hk.out.mono ?_
    rintro e w3 ⟨rfl, hb3⟩
    have HL3 := Lib.hid (HL2.out.later hb3)
    have hb03 := hb02.trans (hb3.mono hb02.size)
    go_wp2_with fail
    refine (overBytes_any n w.heap.size _ w3 HL3.out (by simp [bv, bmk_len, Hn.out]) (by omega)).mono ?_
    rintro e w4 ⟨rfl, hg4⟩
    have hb04 := below_of_grown hb03 hg4 (Nat.le_refl _)
    have Hi4 := Lib.hid ((Hi2.out.later hb3).grown hg4 hg1)
    go_wp2_with fail
    refine (tells_any x _ t p l c w4 Hi4.out.at (Ht.out.later hb04) Hl.out).mono ?_
    rintro e w5 ⟨rfl, hb5⟩
    have hb05 := hb04.trans (hb5.mono hb04.size)
    go_wp2_with fail
    refine (awake_any _).mono ?_
    rintro e w6 ⟨rfl, hb6⟩
    go_wp2
    go_ret
    exact ⟨rfl, hb05.trans (hb6.mono hb05.size)⟩

end Go.Proofs.Ythapnknhodjepaa
