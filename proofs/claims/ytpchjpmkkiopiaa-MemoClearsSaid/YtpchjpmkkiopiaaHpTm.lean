import Derived.Test.YtpchjpmkkiopiaaHpVm
namespace Go.Proofs.Ytpchjpmkkiopiaa
open Go.RowKit Go.Lib

set_option maxRecDepth 100000 in
set_option maxHeartbeats 2000000 in
theorem hPush_any [Watch] {base r m : Nat} {lv : Value} {L : List En} {e : En} (w : World) (h : RowIs base w r m lv L) (hh : Hp (pos L) L.length) (hw : (kx e.name).wf = true) (hn : whr L e.name = none) (hl : L.length < 100000) :
    Calls Try.prog 72 #[.iface 106 (.pointer (some ⟨r, 0, none⟩)), .iface 136 (env e)] w fun en w' => en = .returned (.tuple #[]) ∧ ∃ lv' L', RowIs base w' r m lv' L' ∧ Hp (pos L') L'.length ∧ L'.Perm (L ++ [e]) ∧ KeepH base w w' := by
  have mP : ∀ w, (method 290 106 (.pointer (some ⟨r, 0, none⟩)) "Push").run Try.prog w = .ok (119, .pointer (some ⟨r, 0, none⟩)) w := fun _ => by kernel_rfl
  have mN : ∀ w, (method 290 106 (.pointer (some ⟨r, 0, none⟩)) "Len").run Try.prog w = .ok (116, .pointer (some ⟨r, 0, none⟩)) w := fun _ => by kernel_rfl
  have eP : ∀ args w, (callFunc 119 args).run Try.prog w = .ok (.enter 119 args) w := fun _ _ => by kernel_rfl
  have eN : ∀ args w, (callFunc 116 args).run Try.prog w = .ok (.enter 116 args) w := fun _ _ => by kernel_rfl
  have hlen : (L ++ [e]).length = L.length + 1 := by simp
  have hu : UpI (pos (L ++ [e])) (L.length + 1) L.length := up_push (fun k k0 hk => by
    have := par_lt k0
    rw [pos_push_lt hk, pos_push_lt (by omega)]
    exact hh k k0 hk)
  have H := Lib.hid h
  have Hu := Lib.hid hu
  have Hw := Lib.hid hw
  have Hn := Lib.hid hn
  have Hl := Lib.hid hl
  have HLen := Lib.hid hlen
  obtain ⟨n, hnn⟩ : ∃ n, n = L.length := ⟨_, rfl⟩
  have HN := Lib.hid hnn
  have hn1 : n < 100000 := by omega
  have hwr : IntKind.i64.wrap (((n + 1 : Nat) : Int) - 1) = (n : Int) := (IntWalk.i64_in _ (by omega)).trans (by omega)
  obtain ⟨n1, hn1e⟩ : ∃ n1, n1 = n + 1 := ⟨_, rfl⟩
  rw [← hn1e] at hwr
  have HN1 := Lib.hid hn1e
  clear h hu hw hn hl hh hlen hnn hn1e
  go_enter Try.func72, Try.ntmps72
  go_wp2_with fail
  refine (rPush_any w H.out Hw.out Hn.out Hl.out).mono ?_
  rintro en w2 ⟨rfl, lv2, hr2, hk2⟩
  have HR2 := Lib.hid hr2
  have HK2 := Lib.hid hk2
  have hLn := rLen_any w2 hr2
  rw [HLen.out, ← HN.out, ← HN1.out] at hLn
  have HLn := Lib.hid hLn
  clear hr2 hk2 hLn
  go_wp2_with fail
  refine HLn.out.mono ?_
  rintro en w3 ⟨rfl, rfl⟩
  go_wp2_with fail
  refine (up_any n n1 w2 HR2.out (by rw [HLen.out, HN1.out, HN.out]; omega) (by have := HN1.out; omega) (by rw [HN1.out, HN.out]; exact Hu.out)).mono ?_
  rintro en w4 ⟨rfl, L', hr4, hp4, hpm, hl4, -, hk4⟩
  have HE := Lib.hid (show ∃ lv' L', RowIs base w4 r m lv' L' ∧ Hp (pos L') L'.length ∧ L'.Perm (L ++ [e]) ∧ KeepH base w w4 from ⟨lv2, L', hr4, by rw [hl4, HLen.out, ← HN.out, ← HN1.out]; exact hp4, hpm, KeepH.trans HK2.out hk4⟩)
  clear hr4 hp4 hpm hl4 hk4
  go_wp2
  go_end0
  exact ⟨rfl, HE.out⟩
end Go.Proofs.Ytpchjpmkkiopiaa
