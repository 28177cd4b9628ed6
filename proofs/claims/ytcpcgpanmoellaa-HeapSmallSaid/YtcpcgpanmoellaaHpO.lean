/-
  container/heap: the first is taken.
-/
import Derived.Test.YtcpcgpanmoellaaHpT
namespace Go.Proofs.Ytcpcgpanmoellaa
open Go.RowKit Go.Lib

theorem take_last {L : List En} {n : Nat} (h : L.length = n + 1) : L.take n ++ [pos L n] = L := by
  rw [pos_get (by omega), ← List.take_succ_eq_append_getElem (by omega), List.take_of_length_le (by omega)]
theorem pos_take {L : List En} {n k : Nat} (hk : k < n) (h : n ≤ L.length) : pos (L.take n) k = pos L k := by
  rw [pos_get (by simp; omega), pos_get (by omega), List.getElem_take]
set_option maxRecDepth 100000 in
set_option maxHeartbeats 2000000 in
theorem hPop_any [Watch] {base r m n : Nat} {lv : Value} {L : List En} (w : World) (h : RowIs base w r m lv L) (hh : Hp (pos L) L.length) (hl : L.length = n + 1) :
    Calls Try.prog 29 #[.iface 58 (.pointer (some ⟨r, 0, none⟩))] w fun en w' => en = .returned (.iface 67 (env (pos L 0))) ∧ ∃ lv' L2, RowIs base w' r m lv' L2 ∧ Hp (pos L2) L2.length ∧ (L2 ++ [pos L 0]).Perm L ∧ KeepH base w w' ∧ lv'.ownBlock = lv.ownBlock := by
  have mP : ∀ w, (method 238 58 (.pointer (some ⟨r, 0, none⟩)) "Pop").run Try.prog w = .ok (90, .pointer (some ⟨r, 0, none⟩)) w := fun _ => by kernel_rfl
  have mN : ∀ w, (method 238 58 (.pointer (some ⟨r, 0, none⟩)) "Len").run Try.prog w = .ok (30, .pointer (some ⟨r, 0, none⟩)) w := fun _ => by kernel_rfl
  have mS : ∀ w, (method 238 58 (.pointer (some ⟨r, 0, none⟩)) "Swap").run Try.prog w = .ok (92, .pointer (some ⟨r, 0, none⟩)) w := fun _ => by kernel_rfl
  have eP : ∀ args w, (callFunc 90 args).run Try.prog w = .ok (.enter 90 args) w := fun _ _ => by kernel_rfl
  have eN : ∀ args w, (callFunc 30 args).run Try.prog w = .ok (.enter 30 args) w := fun _ _ => by kernel_rfl
  have eS : ∀ args w, (callFunc 92 args).run Try.prog w = .ok (.enter 92 args) w := fun _ _ => by kernel_rfl
  have hle := h.le
  have hsl := swl_len L 0 n
  have hfar : ∀ k, k < n → k ≠ 0 → pos (swl L 0 n) k = pos L k := fun k hk h0 => by
    rw [pos_swl (by omega) (by omega) (by omega)]
    unfold swp
    rw [if_neg h0, if_neg (by omega)]
  have hdn : DnI (pos (swl L 0 n)) n 0 false := dn_set hh (by omega) (by omega) hfar
  have hlast : pos (swl L 0 n) n = pos L 0 := pos_swl_j (by omega) (by omega)
  have hLn := rLen_any w h
  obtain ⟨n1, hn1⟩ : ∃ n1, n1 = n + 1 := ⟨_, rfl⟩
  rw [hl, ← hn1] at hLn
  have hwr : IntKind.i64.wrap ((n1 : Int) - 1) = (n : Int) := (IntWalk.i64_in _ (by omega)).trans (by omega)
  have H := Lib.hid h
  have HDn := Lib.hid hdn
  have HLast := Lib.hid hlast
  have HSl := Lib.hid hsl
  have Hl := Lib.hid hl
  have HLn := Lib.hid hLn
  clear h hh hl hle hsl hfar hdn hlast hLn hn1
  go_enter Try.func29, Try.ntmps29
  go_wp2_with fail
  refine HLn.out.mono ?_
  rintro en w1 ⟨rfl, rfl⟩
  go_wp2_with fail
  refine (rSwap_any 0 n w H.out (by rw [Hl.out]; omega) (by rw [Hl.out]; omega)).mono ?_
  rintro en w2 ⟨rfl, hr2, hk2⟩
  have HR2 := Lib.hid hr2
  have HK2 := Lib.hid hk2
  clear hr2 hk2
  go_wp2_with fail
  refine (down_any 0 n w2 HR2.out (by rw [HSl.out, Hl.out]; omega) (by omega) HDn.out).mono ?_
  rintro en w3 ⟨L', i, rfl, hd, hup, hmv⟩
  have hhp : Hp (pos L') n := by
    by_cases hi : 0 < i
    · exact hmv hi
    · have : i = 0 := by omega
      rw [this] at hup
      exact up_done hup (.inl rfl)
  have hl' : L'.length = n + 1 := by rw [hd.len, HSl.out, Hl.out]
  have HD := Lib.hid hd
  have HHp := Lib.hid hhp
  have Hl' := Lib.hid hl'
  clear hd hup hmv hhp hl'
  go_wp2_with fail
  refine (rPop_any w3 HD.out.row Hl'.out).mono ?_
  have hlst : pos L' n = pos L 0 := by rw [HD.out.far n (Nat.le_refl _)]; exact HLast.out
  rw [hlst]
  rintro en w4 ⟨rfl, lv4, hr4, hk4, hob⟩
  have HE := Lib.hid (show ∃ lv' L2, RowIs base w4 r m lv' L2 ∧ Hp (pos L2) L2.length ∧ (L2 ++ [pos L 0]).Perm L ∧ KeepH base w w4 ∧ lv'.ownBlock = lv.ownBlock from ⟨lv4, L'.take n, hr4, fun k k0 hk => by
    have hk' : k < n := by simp at hk; omega
    have := par_lt k0
    rw [pos_take (by omega) (by rw [Hl'.out]; omega), pos_take hk' (by rw [Hl'.out]; omega)]
    exact HHp.out k k0 hk', by
    rw [← hlst, take_last Hl'.out]
    exact HD.out.prm.trans (swl_perm (by rw [Hl.out]; omega) (by rw [Hl.out]; omega)), KeepH.trans (KeepH.trans HK2.out HD.out.kep) hk4, hob⟩)
  clear hr4 hk4 hlst hob
  go_wp2
  go_ret
  exact ⟨rfl, HE.out⟩
end Go.Proofs.Ytcpcgpanmoellaa
