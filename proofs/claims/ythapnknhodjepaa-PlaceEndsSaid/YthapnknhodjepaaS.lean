/-
  Place: the document's Place and Line, walked; what 'tells' compares.
-/
import Derived.Test.YthapnknhodjepaaR
namespace Go.Proofs.Ythapnknhodjepaa
open Go.RowKit

theorem plc_pl (t : List UInt8) (l c : Int) (k : Nat) (h : plc t l c = some k) : plP t l c = k ∧ plB t l c = true := by
  simp [plP, plB, h]
theorem plc_pl' (t : List UInt8) (l c : Int) (h : plc t l c = none) : plP t l c = 0 ∧ plB t l c = false := by
  simp [plP, plB, h]

set_option maxHeartbeats 1000000 in
theorem refPlace_any (v : Value) (t : List UInt8) (l c : Int) (w : World) (ht : BytesAt w v t) (hl : t.length ≤ 1000000) :
    Calls Try.prog 23 #[v, .int .i64 l, .int .i64 c] w fun e w' => e = .returned (.tuple #[.int .i64 (plP t l c), .bool (plB t l c)]) ∧ w = w' := by
  obtain ⟨ao, b, off, cap, rfl, hlc, hm, _, hao, hc⟩ := ht
  have Hc := Lib.hid hc
  have Hao := Lib.hid hao
  clear hc hao hm
  obtain ⟨n, hn⟩ : ∃ n, n = t.length := ⟨_, rfl⟩
  have Hn := Lib.hid hn
  rw [← hn] at hl hlc Hao ⊢
  clear hn
  go_enter Try.func23, Try.ntmps23
  go_wp2
  go_loop [8, 9, 10] (fun a b i => ∃ (k x y : Nat), k ≤ n + 1 ∧ i = .int .i64 k ∧ a = .int .i64 x ∧ b = .int .i64 y ∧ x ≤ k + 1 ∧ y ≤ k + 1 ∧ (k ≤ n → x = lno t k ∧ y = k - beg t k + 1) ∧ (∀ j, j < k → (lno t j : Int) = l → ((j - beg t j + 1 : Nat) : Int) = c → False)) (fun _ _ i => n + 1 - (intOf i).toNat)
  case atStart => exact ⟨0, 1, 1, by omega, rfl, rfl, rfl, by omega, by omega, fun _ => ⟨rfl, rfl⟩, fun j hj => by omega⟩
  case round =>
    obtain ⟨k, x, y, hk, rfl, rfl, rfl, hxk, hyk, hxy, hno⟩ := hrel
    have Hxy := Lib.hid hxy
    have Hno := Lib.hid hno
    clear hxy hno
    by_cases hlt : k ≤ n
    · have next : ∀ (x' y' : Nat), (k + 1 ≤ n → x' = lno t (k + 1) ∧ y' = (k + 1) - beg t (k + 1) + 1) → (¬ ((x : Int) = l ∧ (y : Int) = c)) → (k + 1 ≤ n → x' = lno t (k + 1) ∧ y' = (k + 1) - beg t (k + 1) + 1) ∧ (∀ j, j < k + 1 → (lno t j : Int) = l → ((j - beg t j + 1 : Nat) : Int) = c → False) := by
        intro x' y' h1 h2
        refine ⟨h1, fun j hj h3 h4 => ?_⟩
        rcases Nat.lt_or_ge j k with h | h
        · exact Hno.out j h h3 h4
        · obtain rfl : j = k := by omega
          obtain ⟨h5, h6⟩ := Hxy.out hlt
          exact h2 ⟨by rw [h5]; exact h3, by rw [h6]; exact h4⟩
      have Hnext := Lib.hid next
      clear next
      have mid : (¬ ((x : Int) = l ∧ (y : Int) = c)) → ((x : Int) == l && (y : Int) == c) = false := by
        intro h; rw [Bool.and_eq_false_iff, beq_eq_false_iff_ne, beq_eq_false_iff_ne]; by_cases hx : (x : Int) = l
        · right; exact fun hy => h ⟨hx, hy⟩
        · left; exact hx
      by_cases hmt : (x : Int) = l ∧ (y : Int) = c
      · have Hpl := Lib.hid (plc_pl t l c k (plc_some t l c k (by rw [← Hn.out]; exact hlt) (by rw [← (Hxy.out hlt).1]; exact hmt.1) (by rw [← (Hxy.out hlt).2]; exact hmt.2)))
        obtain ⟨hm1, hm2⟩ := hmt
        have hb1 : ((x : Int) == l) = true := by simpa using hm1
        have hb2 : ((y : Int) == c) = true := by simpa using hm2
        clear hm1 hm2 mid
        go_wp2
        go_ret2
        rw [Hpl.out.1, Hpl.out.2]
        exact ⟨rfl, rfl⟩
      · have hmd := Lib.hid (mid hmt)
        have Hmt := Lib.hid hmt
        clear mid hmt
        by_cases hkn : k < n
        · have hkt : k < t.length := by rw [← Hn.out]; omega
          obtain rfl := Hao.out (by omega)
          have hcell := Hc.out k hkt
          obtain ⟨cb, hcb'⟩ : ∃ cb, cb = t[k] := ⟨_, rfl⟩
          rw [← hcb'] at hcell
          have Hcb := Lib.hid hcb'
          clear hcb'
          by_cases h10 : (cb.toNat : Int) = 10
          · have h10' : ((cb.toNat : Int) == 10) = true := by simpa using h10
            have H10 := Lib.hid h10
            clear h10
            have hfin : (k + 1 ≤ n → x + 1 = lno t (k + 1) ∧ 1 = (k + 1) - beg t (k + 1) + 1) := by
              intro _
              have hh := lno_hit t k cb hkt Hcb.out H10.out
              have := (Hxy.out hlt).1
              rw [hh.1, hh.2, this]; simp
            have Hfin := Lib.hid (Hnext.out (x + 1) 1 hfin Hmt.out)
            clear hfin
            by_cases hx : (x : Int) = l
            · have hb1 : ((x : Int) == l) = true := by simpa using hx
              have hb2 : ((y : Int) == c) = false := by rw [beq_eq_false_iff_ne]; exact fun hy => Hmt.out ⟨hx, hy⟩
              clear hx
              go_wp2
              go_round
              case rel => exact ⟨k + 1, x + 1, 1, by omega, by go_num, by go_num, rfl, by omega, by omega, Hfin.out⟩
              case measure => simp [intOf]; omega
            · have hb1 : ((x : Int) == l) = false := by simpa using hx
              clear hx
              go_wp2
              go_round
              case rel => exact ⟨k + 1, x + 1, 1, by omega, by go_num, by go_num, rfl, by omega, by omega, Hfin.out⟩
              case measure => simp [intOf]; omega
          · have h10' : ((cb.toNat : Int) == 10) = false := by simpa using h10
            have H10 := Lib.hid h10
            clear h10
            have hfin : (k + 1 ≤ n → x = lno t (k + 1) ∧ y + 1 = (k + 1) - beg t (k + 1) + 1) := by
              intro _
              have hh := lno_miss t k cb hkt Hcb.out H10.out
              have h1 := (Hxy.out hlt).1
              have h2 := (Hxy.out hlt).2
              have := beg_le t k
              rw [hh.1, hh.2, ← h1]; exact ⟨rfl, by omega⟩
            have Hfin := Lib.hid (Hnext.out x (y + 1) hfin Hmt.out)
            clear hfin
            by_cases hx : (x : Int) = l
            · have hb1 : ((x : Int) == l) = true := by simpa using hx
              have hb2 : ((y : Int) == c) = false := by rw [beq_eq_false_iff_ne]; exact fun hy => Hmt.out ⟨hx, hy⟩
              clear hx
              go_wp2
              go_round
              case rel => exact ⟨k + 1, x, y + 1, by omega, by go_num, rfl, by go_num, by omega, by omega, Hfin.out⟩
              case measure => simp [intOf]; omega
            · have hb1 : ((x : Int) == l) = false := by simpa using hx
              clear hx
              go_wp2
              go_round
              case rel => exact ⟨k + 1, x, y + 1, by omega, by go_num, rfl, by go_num, by omega, by omega, Hfin.out⟩
              case measure => simp [intOf]; omega
        · have hkn' : ¬ (k : Int) < n := by omega
          have Hfin := Lib.hid (Hnext.out x (y + 1) (fun h => by omega) Hmt.out)
          by_cases hx : (x : Int) = l
          · have hb1 : ((x : Int) == l) = true := by simpa using hx
            have hb2 : ((y : Int) == c) = false := by rw [beq_eq_false_iff_ne]; exact fun hy => Hmt.out ⟨hx, hy⟩
            clear hx
            go_wp2
            go_round
            case rel => exact ⟨k + 1, x, y + 1, by omega, by go_num, rfl, by go_num, by omega, by omega, Hfin.out⟩
            case measure => simp [intOf]; omega
          · have hb1 : ((x : Int) == l) = false := by simpa using hx
            clear hx
            go_wp2
            go_round
            case rel => exact ⟨k + 1, x, y + 1, by omega, by go_num, rfl, by go_num, by omega, by omega, Hfin.out⟩
            case measure => simp [intOf]; omega
    · have Hpl := Lib.hid (plc_pl' t l c (plc_none t l c fun p hp h1 h2 => Hno.out p (by have := Hn.out; omega) h1 h2))
      go_wp2
      go_ret2
      rw [Hpl.out.1, Hpl.out.2]
      exact ⟨rfl, rfl⟩

/-- the place of a line's head. -/
theorem plc_head (t : List UInt8) (l : Int) : plc t l 1 = if 1 ≤ l ∧ l ≤ lno t t.length then some ((nls t t.length).getD (l - 1).toNat 0) else none := by
  split
  · rename_i h
    have ha := nls_at t t.length (l - 1).toNat (by omega)
    exact plc_some t l 1 _ ha.1 (by omega) (by rw [ha.2.2.1]; simp)
  · rename_i h
    refine plc_none t l 1 fun p hp h1 _ => ?_
    have := lno_mono t p _ hp
    have := lno_pos t p
    omega

set_option maxHeartbeats 1000000 in
theorem refLine_any (v : Value) (t : List UInt8) (l : Int) (w : World) (ht : BytesAt w v t) (hl : t.length ≤ 1000000) :
    Calls Try.prog 24 #[v, .int .i64 l] w fun e w' => e = .returned (.tuple #[.int .i64 (lnF t l), .int .i64 (lnT t l), .bool (lnB t l)]) ∧ w = w' := by
  have H := Lib.hid (refPlace_any v t l 1 w ht hl)
  have hph := plc_head t l
  obtain ⟨ao, b, off, cap, rfl, hlc, hm, _, hao, hc⟩ := ht
  have Hc := Lib.hid hc
  have Hao := Lib.hid hao
  clear hc hao hm
  by_cases hp : 1 ≤ l ∧ l ≤ lno t t.length
  · rw [if_pos hp] at hph
    have h2 := plc_pl t l 1 _ hph
    rw [h2.1, h2.2] at H
    obtain ⟨k, hk⟩ : ∃ k : Nat, l = (k : Int) + 1 := ⟨(l - 1).toNat, by omega⟩
    have Hfin : Hid (lnF t l = ((nls t t.length).getD k 0 : Nat) ∧ lnT t l = (lineEnd (nls t t.length) t.length k : Nat) ∧ lnB t l = true) := by
      have e : (l - 1).toNat = k := by omega
      have hp' : 1 ≤ (k : Int) + 1 ∧ (k : Int) + 1 ≤ lno t t.length := by omega
      subst hk
      simp only [Hid, lnF, lnT, lnB, if_pos hp', e, hp', decide_true, and_self, if_true]
    have e : (l - 1).toNat = k := by omega
    rw [e] at H
    have hf := line_facts t k (by omega)
    obtain ⟨f, hff⟩ : ∃ f, f = (nls t t.length).getD k 0 := ⟨_, rfl⟩
    obtain ⟨u, huu⟩ : ∃ u, u = lineEnd (nls t t.length) t.length k := ⟨_, rfl⟩
    rw [← hff, ← huu] at hf Hfin
    rw [← hff] at H
    obtain ⟨⟨hfu, hun⟩, hmore, hlast, hten⟩ := hf
    have Hmore := Lib.hid hmore
    have Hlast := Lib.hid hlast
    have Hten := Lib.hid hten
    clear hmore hlast hten hff huu e hk hp hph h2
    obtain ⟨n, hn⟩ : ∃ n, n = t.length := ⟨_, rfl⟩
    have Hn := Lib.hid hn
    rw [← hn] at hl hlc Hao hun H ⊢
    clear hn
    go_enter Try.func24, Try.ntmps24
    go_wp2_with (go_at_call 23; refine H.out.mono ?_; rintro e w' ⟨rfl, rfl⟩)
    go_loop [9] (fun i => ∃ m : Nat, i = .int .i64 m ∧ f ≤ m ∧ m ≤ u) (fun i => u - (intOf i).toNat)
    case atStart => exact ⟨f, rfl, by omega, by omega⟩
    case round =>
      obtain ⟨m, rfl, hfm, hmu⟩ := hrel
      by_cases hlt : m < u
      · have hmn : (m : Int) < n := by omega
        by_cases hmf : m = f
        · have hb : ((m : Int) == f) = true := by rw [beq_iff_eq]; omega
          clear hmf
          go_wp2
          go_round
          case rel => exact ⟨m + 1, by go_num, by omega, by omega⟩
          case measure => simp [intOf]; omega
        · have hb : ((m : Int) == f) = false := by simp; omega
          obtain rfl := Hao.out (by omega)
          have hml : m - 1 < t.length := by rw [← Hn.out]; omega
          have hcell := Hc.out (m - 1) hml
          have hne10 := Hten.out (m - 1) (by omega) (by omega)
          rw [List.getElem?_eq_getElem hml] at hne10
          obtain ⟨cb, hcb⟩ : ∃ cb, cb = t[m - 1] := ⟨_, rfl⟩
          rw [← hcb] at hcell hne10
          clear hcb
          have hne10' : ((cb.toNat : Int) != 10) = true := by
            rw [bne_iff_ne]; intro h; exact hne10 (by rw [(toNat_ten cb).1 h])
          have hm1 : IntKind.i64.wrap ((m : Int) - 1) = (m : Int) - 1 := IntWalk.i64_in _ (by omega)
          clear hne10
          go_wp2
          go_round
          case rel => exact ⟨m + 1, by go_num, by omega, by omega⟩
          case measure => simp [intOf]; omega
      · obtain rfl : m = u := by omega
        by_cases hmn : m < n
        · have hmn' : (m : Int) < n := by omega
          have hk1 : k + 1 < lno t t.length := by
            rcases Nat.lt_or_ge (k + 1) (lno t t.length) with h | h
            · exact h
            · have := Hlast.out (by omega); have := Hn.out; omega
          obtain ⟨hux, hu2, hu3⟩ := Hmore.out hk1
          clear hux
          have hb : ((m : Int) == f) = false := by simp; omega
          obtain rfl := Hao.out (by omega)
          have hml : m - 1 < t.length := by rw [← Hn.out]; omega
          have hcell := Hc.out (m - 1) hml
          rw [List.getElem?_eq_getElem hml] at hu3
          have h10 : t[m - 1] = 10 := by simpa using hu3
          rw [h10] at hcell
          clear h10 hu3
          have hm1 : IntKind.i64.wrap ((m : Int) - 1) = (m : Int) - 1 := IntWalk.i64_in _ (by omega)
          go_wp2
          go_ret3
          rw [Hfin.out.1, Hfin.out.2.1, Hfin.out.2.2]
          exact ⟨rfl, rfl⟩
        · have hmn' : ¬ (m : Int) < n := by omega
          go_wp2
          go_ret3
          rw [Hfin.out.1, Hfin.out.2.1, Hfin.out.2.2]
          exact ⟨rfl, rfl⟩
  · rw [if_neg hp] at hph
    have h2 := plc_pl' t l 1 hph
    rw [h2.1, h2.2] at H
    have Hfin : Hid (lnF t l = 0 ∧ lnT t l = 0 ∧ lnB t l = false) := by
      simp [Hid, lnF, lnT, lnB, hp]
    clear hp hph h2
    go_enter Try.func24, Try.ntmps24
    go_wp2_with (go_at_call 23; refine H.out.mono ?_; rintro e w' ⟨rfl, rfl⟩)
    go_ret3
    rw [Hfin.out.1, Hfin.out.2.1, Hfin.out.2.2]
    exact ⟨rfl, rfl⟩

end Go.Proofs.Ythapnknhodjepaa
