import Derived.Test.YtpchjpmkkiopiaaGreatHpTm
namespace Go.Proofs.YtpchjpmkkiopiaaGreat
open Go.RowKit Go.Lib

theorem take_last {L : List En} {n : Nat} (h : L.length = n + 1) : L.take n ++ [pos L n] = L := by
  rw [pos_get (by omega), ← List.take_succ_eq_append_getElem (by omega), List.take_of_length_le (by omega)]
theorem pos_take {L : List En} {n k : Nat} (hk : k < n) (h : n ≤ L.length) : pos (L.take n) k = pos L k := by
  rw [pos_get (by simp; omega), pos_get (by omega), List.getElem_take]
end Go.Proofs.YtpchjpmkkiopiaaGreat
namespace Go.Proofs.YtpchjpmkkiopiaaGreat
open Go.RowKit Go.Lib

theorem hp_take {L : List En} {n : Nat} (h : Hp (pos L) n) (hl : n ≤ L.length) : Hp (pos (L.take n)) (L.take n).length := fun k k0 hk => by
  have hk' : k < n := by simp at hk; omega
  have := par_lt k0
  rw [pos_take (by omega) hl, pos_take hk' hl]
  exact h k k0 hk'
set_option maxRecDepth 100000 in
set_option maxHeartbeats 2000000 in
theorem hRemove_any [Watch] {base r m n : Nat} {lv : Value} {L : List En} (i : Nat) (w : World) (h : RowIs base w r m lv L) (hh : Hp (pos L) L.length) (hl : L.length = n + 1) (hi : i ≤ n) :
    Calls Tryz.prog 71 #[.iface 107 (.pointer (some ⟨r, 0, none⟩)), .int .i64 i] w fun en w' => en = .returned (.iface 133 (env (pos L i))) ∧ ∃ lv' L2, RowIs base w' r m lv' L2 ∧ Hp (pos L2) L2.length ∧ (L2 ++ [pos L i]).Perm L ∧ KeepH base w w' := by
  have mP : ∀ w, (method 287 107 (.pointer (some ⟨r, 0, none⟩)) "Pop").run Tryz.prog w = .ok (116, .pointer (some ⟨r, 0, none⟩)) w := fun _ => by kernel_rfl
  have mN : ∀ w, (method 287 107 (.pointer (some ⟨r, 0, none⟩)) "Len").run Tryz.prog w = .ok (114, .pointer (some ⟨r, 0, none⟩)) w := fun _ => by kernel_rfl
  have mS : ∀ w, (method 287 107 (.pointer (some ⟨r, 0, none⟩)) "Swap").run Tryz.prog w = .ok (118, .pointer (some ⟨r, 0, none⟩)) w := fun _ => by kernel_rfl
  have eP : ∀ args w, (callFunc 116 args).run Tryz.prog w = .ok (.enter 116 args) w := fun _ _ => by kernel_rfl
  have eN : ∀ args w, (callFunc 114 args).run Tryz.prog w = .ok (.enter 114 args) w := fun _ _ => by kernel_rfl
  have eS : ∀ args w, (callFunc 118 args).run Tryz.prog w = .ok (.enter 118 args) w := fun _ _ => by kernel_rfl
  have hle := h.le
  have hLn := rLen_any w h
  obtain ⟨n1, hn1⟩ : ∃ n1, n1 = n + 1 := ⟨_, rfl⟩
  rw [hl, ← hn1] at hLn
  have hwr : IntKind.i64.wrap ((n1 : Int) - 1) = (n : Int) := (IntWalk.i64_in _ (by omega)).trans (by omega)
  have H := Lib.hid h
  have Hh := Lib.hid hh
  have Hl := Lib.hid hl
  have HLn := Lib.hid hLn
  have Hle := Lib.hid hle
  clear h hh hl hle hLn hn1
  go_enter Tryz.func71, Tryz.ntmps71
  go_wp2_with fail
  refine HLn.out.mono ?_
  rintro en w1 ⟨rfl, rfl⟩
  by_cases hin : n = i
  · have q1 : ((n : Int) != (i : Int)) = false := by rw [hin]; simp
    have q2 : decide ((n : Int) = (i : Int)) = true := by rw [hin]; simp
    have hpp := rPop_any w H.out Hl.out
    have hpi : pos L n = pos L i := by rw [hin]
    rw [hpi] at hpp
    have HPp := Lib.hid hpp
    have HPi := Lib.hid hpi
    have Hin := Lib.hid hin
    have hin2 : (n : Int) = (i : Int) := by omega
    clear hin hpp hpi mS eS hi
    go_wp2_with fail
    all_goals first | (exfalso; omega) | skip
    refine HPp.out.mono ?_
    rintro en w4 ⟨rfl, lv4, hr4, hk4, -⟩
    have HE := Lib.hid (show ∃ lv' L2, RowIs base w4 r m lv' L2 ∧ Hp (pos L2) L2.length ∧ (L2 ++ [pos L i]).Perm L ∧ KeepH base w w4 from ⟨lv4, L.take n, hr4, hp_take (fun k k0 hk => Hh.out k k0 (by rw [Hl.out]; omega)) (by rw [Hl.out]; omega), by rw [← HPi.out, take_last Hl.out], hk4⟩)
    clear hr4 hk4
    go_wp2
    go_ret
    exact ⟨rfl, HE.out⟩
  · have q1 : ((n : Int) != (i : Int)) = true := by simp; omega
    have q2 : decide ((n : Int) = (i : Int)) = false := by simp; omega
    have q3 : ¬ (n : Int) = (i : Int) := by omega
    have hsl := swl_len L i n
    have hps := pos_swl (L := L) (i := i) (j := n) (by rw [Hl.out]; omega) (by rw [Hl.out]; omega) (by omega)
    have hdn : DnI (pos (swl L i n)) n i false := dn_set Hh.out (by rw [Hl.out]; omega) (by rw [Hl.out]; omega) (fun k hk h0 => by
      rw [hps]
      unfold swp
      rw [if_neg h0, if_neg (by omega)])
    have HDn := Lib.hid hdn
    have HSl := Lib.hid hsl
    have HLast := Lib.hid (show pos (swl L i n) n = pos L i from pos_swl_j (by rw [Hl.out]; omega) (by rw [Hl.out]; omega))
    have Hi := Lib.hid (show i < n by omega)
    clear hin hsl hps hdn hi
    go_wp2_with fail
    refine (rSwap_any i n w H.out (by rw [Hl.out]; have := Hi.out; omega) (by rw [Hl.out]; omega)).mono ?_
    rintro en w2 ⟨rfl, hr2, hk2⟩
    have HR2 := Lib.hid hr2
    have HK2 := Lib.hid hk2
    clear hr2 hk2
    go_wp2_with fail
    refine (down_any i n w2 HR2.out (by rw [HSl.out, Hl.out]; omega) (by have := Hi.out; have := Hle.out; have := Hl.out; omega) HDn.out).mono ?_
    rintro en w3 ⟨L', i2, rfl, hd, hup, hmv⟩
    have hl' : L'.length = n + 1 := by rw [hd.len, HSl.out, Hl.out]
    have HEnd := Lib.hid (show ∀ (wq : World) (L3 : List En), RowIs base wq r m lv L3 → Hp (pos L3) n → L3.Perm L' → L3.length = n + 1 → (∀ k, n ≤ k → pos L3 k = pos L' k) → KeepH base w3 wq → Calls Tryz.prog 116 #[.pointer (some ⟨r, 0, none⟩)] wq fun en w' => en = .returned (.iface 133 (env (pos L i))) ∧ ∃ lv' L2, RowIs base w' r m lv' L2 ∧ Hp (pos L2) L2.length ∧ (L2 ++ [pos L i]).Perm L ∧ KeepH base w w' from fun wq L3 hr hp hpm hl3 hf hk => by
      have hlst : pos L3 n = pos L i := by rw [hf n (Nat.le_refl _), hd.far n (Nat.le_refl _)]; exact HLast.out
      have := rPop_any wq hr hl3
      rw [hlst] at this
      refine this.mono ?_
      rintro en w4 ⟨rfl, lv4, hr4, hk4, -⟩
      refine ⟨rfl, lv4, L3.take n, hr4, hp_take hp (by omega), ?_, KeepH.trans (KeepH.trans (KeepH.trans HK2.out hd.kep) hk) hk4⟩
      rw [← hlst, take_last hl3]
      exact (hpm.trans hd.prm).trans (swl_perm (by rw [Hl.out]; have := Hi.out; omega) (by rw [Hl.out]; omega)))
    by_cases hm : i < i2
    · have HE := Lib.hid (HEnd.out w3 L' hd.row (hmv hm) (List.Perm.refl _) hl' (fun _ _ => rfl) (Keeps.refl _ _))
      have q1 : decide (i < i2) = true := by simpa using hm
      rw [q1]
      clear hd hup hmv hm q1 hl' HEnd
      go_wp2_with fail
      refine HE.out.mono ?_
      rintro en w4 ⟨rfl, hE⟩
      have HE2 := Lib.hid hE
      clear hE
      go_wp2
      go_ret
      exact ⟨rfl, HE2.out⟩
    · have he : i2 = i := by have := hd.ge; omega
      have q1 : decide (i < i2) = false := by simpa using hm
      rw [q1]
      rw [he] at hup
      have HU := Lib.hid (up_any i n w3 hd.row (by omega) Hi.out hup)
      have Hl' := Lib.hid hl'
      clear hd hup hmv hm q1 he hl'
      go_wp2_with fail
      refine HU.out.mono ?_
      rintro en w4 ⟨rfl, L2, hr4, hp4, hpm, hl4, hf4, hk4⟩
      have HE := Lib.hid (HEnd.out w4 L2 hr4 hp4 hpm (by rw [hl4]; exact Hl'.out) hf4 hk4)
      clear hr4 hp4 hpm hl4 hk4 hf4 HEnd
      go_wp2_with fail
      refine HE.out.mono ?_
      rintro en w5 ⟨rfl, hE⟩
      have HE2 := Lib.hid hE
      clear hE
      go_wp2
      go_ret
      exact ⟨rfl, HE2.out⟩
end Go.Proofs.YtpchjpmkkiopiaaGreat
