/-
  container/heap: a place is mended.
-/
import Derived.Test.YtcpcgpanmoellaaHpO
namespace Go.Proofs.Ytcpcgpanmoellaa
open Go.RowKit Go.Lib

set_option maxRecDepth 100000 in
set_option maxHeartbeats 2000000 in
theorem hFix_any [Watch] {base r m : Nat} {lv : Value} {L : List En} (i : Nat) (w : World) (h : RowIs base w r m lv L) (hi : i < L.length) (hd : DnI (pos L) L.length i false) :
    Calls Try.prog 27 #[.iface 58 (.pointer (some ⟨r, 0, none⟩)), .int .i64 i] w fun en w' => en = .returned (.tuple #[]) ∧ ∃ L', RowIs base w' r m lv L' ∧ Hp (pos L') L'.length ∧ L'.Perm L ∧ KeepH base w w' := by
  have mN : ∀ w, (method 238 58 (.pointer (some ⟨r, 0, none⟩)) "Len").run Try.prog w = .ok (30, .pointer (some ⟨r, 0, none⟩)) w := fun _ => by kernel_rfl
  have eN : ∀ args w, (callFunc 30 args).run Try.prog w = .ok (.enter 30 args) w := fun _ _ => by kernel_rfl
  have hle := h.le
  have hLn := rLen_any w h
  obtain ⟨n, hn⟩ : ∃ n, n = L.length := ⟨_, rfl⟩
  rw [← hn] at hLn
  have H := Lib.hid h
  have Hi := Lib.hid hi
  have Hd := Lib.hid hd
  have HN := Lib.hid hn
  have HLe := Lib.hid hle
  have HLn := Lib.hid hLn
  clear h hi hd hle hLn hn
  go_enter Try.func27, Try.ntmps27
  go_wp2_with fail
  refine HLn.out.mono ?_
  rintro en w1 ⟨rfl, rfl⟩
  go_wp2_with fail
  refine (down_any i n w H.out (by rw [HN.out]; omega) (by have := Hi.out; have := HLe.out; omega) (by rw [HN.out]; exact Hd.out)).mono ?_
  rintro en w3 ⟨L', i2, rfl, hd, hup, hmv⟩
  by_cases hm : i < i2
  · have HE := Lib.hid (show ∃ L', RowIs base w3 r m lv L' ∧ Hp (pos L') L'.length ∧ L'.Perm L ∧ KeepH base w w3 from ⟨L', hd.row, by rw [hd.len, ← HN.out]; exact hmv hm, hd.prm, hd.kep⟩)
    have q1 : decide (i < i2) = true := by simpa using hm
    rw [q1]
    clear hd hup hmv hm q1
    go_wp2
    go_end0
    exact ⟨rfl, HE.out⟩
  · have he : i2 = i := by have := hd.ge; omega
    have q1 : decide (i < i2) = false := by simpa using hm
    rw [q1]
    rw [he] at hup
    have hl := hd.len
    have HU := Lib.hid (up_any i n w3 hd.row (by rw [hl, HN.out]; omega) (by rw [HN.out]; exact Hi.out) hup)
    have HD := Lib.hid hd
    clear hd hup hmv hm q1 he hl
    go_wp2_with fail
    refine HU.out.mono ?_
    rintro en w4 ⟨rfl, L2, hr4, hp4, hpm, hl4, -, hk4⟩
    have HE := Lib.hid (show ∃ L', RowIs base w4 r m lv L' ∧ Hp (pos L') L'.length ∧ L'.Perm L ∧ KeepH base w w4 from ⟨L2, hr4, by rw [hl4, HD.out.len, ← HN.out]; exact hp4, hpm.trans HD.out.prm, KeepH.trans HD.out.kep hk4⟩)
    clear hr4 hp4 hpm hl4 hk4
    go_wp2
    go_end0
    exact ⟨rfl, HE.out⟩
end Go.Proofs.Ytcpcgpanmoellaa
