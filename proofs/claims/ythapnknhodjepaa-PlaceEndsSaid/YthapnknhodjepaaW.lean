/-
  Place: PlaceJoins: two texts, one behind the other.
-/
import Derived.Test.YthapnknhodjepaaV
namespace Go.Proofs.Ythapnknhodjepaa
open Go.RowKit

theorem lno_left (a b : List UInt8) (p : Nat) (h : p ≤ a.length) : lno (a ++ b) p = lno a p ∧ beg (a ++ b) p = beg a p := by
  induction p with
  | zero => exact ⟨rfl, rfl⟩
  | succ p ih =>
    have ih := ih (by omega)
    simp only [lno, beg]
    rw [List.getElem?_append_left (by omega), ih.1, ih.2]
    exact ⟨rfl, rfl⟩

theorem lno_right (a b : List UInt8) (p : Nat) : lno (a ++ b) (a.length + p) + 1 = lno a a.length + lno b p ∧
    (lno b p = 1 → beg (a ++ b) (a.length + p) = beg a a.length ∧ beg b p = 0) ∧ (lno b p ≠ 1 → beg (a ++ b) (a.length + p) = a.length + beg b p) := by
  induction p with
  | zero =>
    have := lno_left a b a.length (Nat.le_refl _)
    simp only [Nat.add_zero, lno, beg]
    exact ⟨by omega, fun _ => ⟨this.2, trivial⟩, fun h => absurd rfl h⟩
  | succ p ih =>
    obtain ⟨h1, h2, h3⟩ := ih
    have hp := lno_pos b p
    rw [← Nat.add_assoc]
    simp only [lno, beg]
    rw [List.getElem?_append_right (by omega), show a.length + p - a.length = p by omega]
    split
    · exact ⟨by omega, fun h => by omega, fun _ => by omega⟩
    · exact ⟨h1, h2, h3⟩

theorem own_bytes {w : World} {base n : Nat} {v : Value} {t : List UInt8} (hn : n = t.length) (hl : t.length ≤ 1000000) (h : w.ownsRow base 5 1 v n (bv t)) : BytesAt w v t := by
  subst hn
  rcases h.2 with ⟨rfl, h0⟩ | ⟨g, cap, cur, rfl, hbg, hg, hnc, hcm, hcs, htake⟩
  · refine ⟨none, 0, 0, 0, by rw [h0], by omega, by unfold maxLen; omega, fun _ => ⟨h0, rfl⟩, fun h => by omega, fun k hk => by omega⟩
  · refine ⟨_, g, 0, cap, rfl, hnc, hcm, fun h => by simp at h, fun _ => rfl, fun k hk => ?_⟩
    rw [Nat.zero_add, h.cellAt k (by omega)]
    simp [bv, hk]

set_option maxRecDepth 100000 in
set_option maxHeartbeats 4000000 in
theorem placeJoins_any (v0 v1 : Value) (a b : List UInt8) (p : Int) (w : World) (ha : BytesAt w v0 a) (hb : BytesAt w v1 b) :
    Calls Try.prog 6 #[v0, v1, .int .i64 p] w fun e w' => e = .returned (.bool true) ∧ Below w.heap.size w w' := by
  have Ha := Lib.hid ha
  have Hb := Lib.hid hb
  obtain ⟨ao0, b0, off0, cap0, hv0, hlc0, hm0, hnil0, hao0, hc0⟩ := ha
  obtain ⟨ao1, b1, off1, cap1, hv1, hlc1, hm1, hnil1, hao1, hc1⟩ := hb
  have Hnil0 := Lib.hid hnil0
  have Hnil1 := Lib.hid hnil1
  have Hao0 := Lib.hid hao0
  have Hao1 := Lib.hid hao1
  have Hc0 := Lib.hid hc0
  have Hc1 := Lib.hid hc1
  clear hnil0 hnil1 hao0 hao1 hc0 hc1
  obtain ⟨n, hn⟩ : ∃ n, n = a.length := ⟨_, rfl⟩
  obtain ⟨m, hm⟩ : ∃ m, m = b.length := ⟨_, rfl⟩
  rw [← hn] at hlc0 hv0
  rw [← hm] at hlc1 hv1
  subst hv0; subst hv1
  have Hn := Lib.hid hn
  have Hm := Lib.hid hm
  clear hn hm
  unfold maxLen at hm0 hm1
  obtain ⟨i0, hi, hz0, hz1, hz2⟩ := info_parts Try.info5
  by_cases hbig0 : 1000 < n
  · go_enter Try.func6, Try.ntmps6
    go_wp2_with (go_at_call 7; refine (awake_any _).mono ?_; rintro e w1 ⟨rfl, hb1⟩)
    go_ret
    exact ⟨rfl, hb1⟩
  by_cases hbig1 : 1000 < m
  · have hb0' : ¬ 1000 < n := hbig0
    go_enter Try.func6, Try.ntmps6
    go_wp2_with (go_at_call 7; refine (awake_any _).mono ?_; rintro e w1 ⟨rfl, hb1⟩)
    go_ret
    exact ⟨rfl, hb1⟩
  have hla : a.length ≤ 1000000 := by rw [← Hn.out]; omega
  have hlb : b.length ≤ 1000000 := by rw [← Hm.out]; omega
  have Hla := Lib.hid hla
  have Hlb := Lib.hid hlb
  clear hla hlb
  go_enter Try.func6, Try.ntmps6
  go_wp2_with fail
  refine (awake_any _).mono ?_
  rintro e w1 ⟨rfl, hb1⟩
  go_wp2_with fail
  refine (new_any _ a _ (Ha.out.later hb1) Hla.out).mono ?_
  rintro e w2 ⟨x, rfl, hx, hi2, hb2⟩
  have Hi2 := Lib.hid hi2
  have hb02 := hb1.trans (hb2.mono hb1.size)
  clear hi2 hx
  go_wp2_with fail
  refine (new_any _ b _ (Hb.out.later hb02) Hlb.out).mono ?_
  rintro e w3 ⟨y, rfl, hy, hi3, hb3⟩
  have Hi3 := Lib.hid hi3
  have hb03 := hb02.trans (hb3.mono hb02.size)
  clear hi3 hy
  have hsz := hb03.size
  have hown3 : (w3.alloc (.cells #[] 5)).ownsRow w3.heap.size 5 1 (.slice (some ⟨w3.heap.size, 0, none⟩) 0 0) 0 [] := World.ownsRow_made w3 #[] 0 (Nat.le_refl _) (by unfold maxLen; omega) rfl
  have hb3a : Below w.heap.size w (w3.alloc (.cells #[] 5)) := hb03.alloc hsz _
  have Hc0' := Lib.hid (fun (k : Nat) (h : k < a.length) => (hb3a.cell (p := ⟨b0, off0 + k, none⟩) (World.block_lt_of_cell? _ _ (Hc0.out k h))).trans (Hc0.out k h))
  go_wp2_with (first
    | (at_builtin; refine wpList_append_own_any _ rfl (.tmp 33) (.tmp 34) 22 rfl w3.heap.size 5 i0 (.int .u8 0) 1 1 Try.underlying22 hi hz0 hz1 hz2 rfl (by decide) _ 0 [] rfl hown3 ao0 n cap0 (bv a) rfl (by simp [bv, Hn.out]) (fun h => by have h' := Hnil0.out h; have h2 := Hn.out; omega) (bytes_news Hao0.out Hc0'.out) (bv_oneCell a) (by unfold maxLen; omega) (by omega) (by simp) ?_; intro v4 w4 hown4 hg4; simp only [Nat.zero_add, List.nil_append] at hown4; have hb4 := hb3a.grown hg4 hb3a.size (fun k hk => Nat.le_trans hsz (hown3.lt k hk).1); have Hc1' := Lib.hid (fun (k : Nat) (h : k < b.length) => (hb4.cell (p := ⟨b1, off1 + k, none⟩) (World.block_lt_of_cell? _ _ (Hc1.out k h))).trans (Hc1.out k h)); have hs4 := hg4.size)
    | (at_builtin; refine wpList_append_own_any _ rfl (.tmp 35) (.tmp 36) 22 rfl w3.heap.size 5 i0 (.int .u8 0) 1 1 Try.underlying22 hi hz0 hz1 hz2 rfl (by decide) _ n (bv a) rfl hown4 ao1 m cap1 (bv b) rfl (by simp [bv, Hm.out]) (fun h => by have h' := Hnil1.out h; have h2 := Hm.out; omega) (bytes_news Hao1.out Hc1'.out) (bv_oneCell b) (by unfold maxLen; omega) (by omega) (by simp at hs4; omega) ?_; intro v5 w5 hown5 hg5; have hb5 := hb4.grown hg5 hb4.size (fun k hk => Nat.le_trans hsz (hown4.lt k hk).1); have hbz := Lib.hid (own_bytes (n := n + m) (t := a ++ b) (by simp [Hn.out, Hm.out]) (by simp [← Hn.out, ← Hm.out]; omega) (by simpa [bv] using hown5))))
  have hll : (a ++ b).length ≤ 1000000 := by simp [← Hn.out, ← Hm.out]; omega
  have Hll := Lib.hid hll
  have Hab : Hid ((a ++ b).length = n + m) := by simp [Hid, Hn.out, Hm.out]
  clear hll
  refine (new_any v5 (a ++ b) _ hbz.out Hll.out).mono ?_
  rintro e w6 ⟨z, rfl, hzz, hi6, hb6⟩
  have hb06 := hb5.trans (hb6.mono hb5.size)
  have Hi6 := Lib.hid hi6
  have h56 : Below w5.heap.size w5 w6 := hb6
  have h36 : Below w3.heap.size w3 w6 := (((Below.refl _ _).alloc (Nat.le_refl _) _).grown hg4 (by simp) (fun k hk => (hown3.lt k hk).1)).trans ((((Below.refl w4.heap.size w4).mono (by simp at hs4; omega)).grown hg5 (by simp at hs4; omega) (fun k hk => (hown4.lt k hk).1)).trans (h56.mono (by have := hg5.size; simp at hs4; omega)))
  have Hx6 := Lib.hid ((Hi2.out.later hb3).later h36)
  have Hy6 := Lib.hid (Hi3.out.later h36)
  clear hi6 hown5 hown4 hg5 hg4 hown3 Hc0' Hc1' hb3a
  have hLz := nls_length (a ++ b) (a ++ b).length
  have hLx := nls_length a a.length
  have hLy := nls_length b b.length
  have hjoin := lno_right a b b.length
  rw [show a.length + b.length = (a ++ b).length by simp] at hjoin
  have hpx := lno_pos a a.length
  have hpy := lno_pos b b.length
  have hbx := (nls_len a a.length).2
  have hby := (nls_len b b.length).2
  rw [hLx, ← Hn.out] at hbx
  rw [hLy, ← Hm.out] at hby
  rw [← Hn.out] at hLx hpx hjoin
  rw [← Hm.out] at hLy hpy hjoin
  rw [Hab.out] at hLz hjoin
  have Hl := Lib.hid (lines_yes z _ _ _ Hi6.out)
  have Hl2 := Lib.hid (lines_yes x _ _ _ Hx6.out)
  have Hl3 := Lib.hid (lines_yes y _ _ _ Hy6.out)
  have Hl4 := Lib.hid (len_yes z _ _ _ Hi6.out)
  rw [Hab.out, hLz] at Hl
  rw [Hab.out] at Hl4
  rw [← Hn.out, hLx] at Hl2
  rw [← Hm.out, hLy] at Hl3
  obtain ⟨LX, hLX⟩ : ∃ LX, LX = lno a n := ⟨_, rfl⟩
  obtain ⟨LY, hLY⟩ : ∃ LY, LY = lno b m := ⟨_, rfl⟩
  obtain ⟨LZ, hLZ⟩ : ∃ LZ, LZ = lno (a ++ b) (n + m) := ⟨_, rfl⟩
  rw [← hLX] at Hl2 hbx hpx hjoin
  rw [← hLY] at Hl3 hby hpy
  rw [← hLZ] at Hl hjoin
  have hj1 := hjoin.1
  rw [← hLY] at hj1
  have hne : ((LZ : Int) != (LX : Int) + LY - 1) = false := by simp; omega
  have HLX := Lib.hid hLX
  clear hLX hLY hLZ hjoin hLz hLx hLy
  clear hj1
  go_wp2_with fail
  refine Hl.out.mono ?_
  rintro e w7 ⟨rfl, rfl⟩
  go_wp2_with fail
  refine Hl2.out.mono ?_
  rintro e w7 ⟨rfl, rfl⟩
  go_wp2_with fail
  refine Hl3.out.mono ?_
  rintro e w7 ⟨rfl, rfl⟩
  go_wp2_with fail
  refine Hl4.out.mono ?_
  rintro e w7 ⟨rfl, rfl⟩
  by_cases hp : 0 ≤ p ∧ p ≤ m
  · obtain ⟨q, rfl⟩ : ∃ q : Nat, p = q := ⟨p.toNat, by omega⟩
    have hqm : q ≤ m := by omega
    clear hp
    have hr := lno_right a b q
    rw [← Hn.out] at hr
    have Hy := Lib.hid (at_text y b q _ Hy6.out Hlb.out (by rw [← Hm.out]; exact hqm))
    have hpq := lno_pos b q
    have hbq := beg_le b q
    have hlq : lno b q ≤ q + 1 := by rw [← nls_length]; exact (nls_len b q).2
    have hbn := beg_le a n
    have hbz2 := beg_le (a ++ b) (n + q)
    obtain ⟨lq, hlq'⟩ : ∃ lq, lq = lno b q := ⟨_, rfl⟩
    obtain ⟨cq, hcq⟩ : ∃ cq, cq = q - beg b q + 1 := ⟨_, rfl⟩
    obtain ⟨lr, hlr⟩ : ∃ lr, lr = lno (a ++ b) (n + q) := ⟨_, rfl⟩
    obtain ⟨cr, hcr⟩ : ∃ cr, cr = n + q - beg (a ++ b) (n + q) + 1 := ⟨_, rfl⟩
    obtain ⟨cx, hcx⟩ : ∃ cx, cx = n - beg a n + 1 := ⟨_, rfl⟩
    rw [← hlq', ← hcq] at Hy
    rw [← hlq'] at hr hpq hlq
    have HLX' := HLX.out
    rw [← HLX'] at hr
    rw [← hlr] at hr
    have hcq1 : cq ≤ 1001 := by omega
    have hcx1 : cx ≤ 1001 := by omega
    have hone : lq = 1 → cr + 1 = cq + cx := by intro h; have := hr.2.1 h; omega
    have htwo : lq ≠ 1 → cr = cq := by intro h; have := hr.2.2 h; omega
    have hlines : lr + 1 = LX + lq := hr.1
    have hlrb : lr ≤ 3000 := by omega
    have Hz : ∀ wq, IdxAt wq z (nls (a ++ b) (a ++ b).length) (a ++ b).length → Calls Try.prog 9 #[.pointer (some ⟨z, 0, none⟩), .int .i64 ((n : Int) + q)] wq fun e w' => e = .returned (.tuple #[.int .i64 (lr : Nat), .int .i64 (cr : Nat), .bool true]) ∧ Below wq.heap.size wq w' := by
      intro wq hi
      have := at_text z (a ++ b) (n + q) wq hi Hll.out (by rw [Hab.out]; omega)
      rw [← hlr, ← hcr] at this
      exact this
    have Hx : ∀ wq, IdxAt wq x (nls a a.length) a.length → Calls Try.prog 9 #[.pointer (some ⟨x, 0, none⟩), .int .i64 (n : Int)] wq fun e w' => e = .returned (.tuple #[.int .i64 (LX : Nat), .int .i64 (cx : Nat), .bool true]) ∧ Below wq.heap.size wq w' := by
      intro wq hi
      have := at_text x a n wq hi Hla.out (by rw [← Hn.out]; omega)
      rw [← hcx, ← HLX'] at this
      exact this
    have Hz' := Lib.hid Hz
    have Hx' := Lib.hid Hx
    clear Hz Hx hlq' hcq hlr hcr hcx HLX' hr hbq hbn hbz2
    go_wp2_with fail
    refine Hy.out.mono ?_
    rintro e w7 ⟨rfl, hb7⟩
    have Hz7 := Lib.hid (Hi6.out.later hb7)
    have Hx7 := Lib.hid (Hx6.out.later hb7)
    go_wp2_with fail
    refine (Hz'.out _ Hz7.out).mono ?_
    rintro e w8 ⟨rfl, hb8⟩
    have Hx8 := Lib.hid (Hx7.out.later hb8)
    go_wp2_with fail
    refine (Hx'.out _ Hx8.out).mono ?_
    rintro e w9 ⟨rfl, hb9⟩
    have Hx9 := Lib.hid (Hx8.out.later hb9)
    have Hl9 := Lib.hid (lines_yes x _ _ _ Hx9.out)
    have hLx9 := nls_length a a.length
    rw [← Hn.out, ← HLX.out] at hLx9
    rw [← Hn.out, hLx9] at Hl9
    clear hLx9
    have hbfin := ((hb06.trans (hb7.mono hb06.size)).trans (hb8.mono (Nat.le_trans hb06.size hb7.size))).trans (hb9.mono (Nat.le_trans (Nat.le_trans hb06.size hb7.size) hb8.size))
    by_cases h1 : lq = 1
    · have h1' : ((lq : Int) == 1) = true := by rw [beq_iff_eq]; omega
      have ho := hone h1
      have hlast : ((lr : Int) == (lq : Int) + LX - 1) = true := by rw [beq_iff_eq]; omega
      have hlast2 : ((cr : Int) == (cq : Int) + cx - 1) = true := by rw [beq_iff_eq]; omega
      clear hone htwo h1 ho hlines
      go_wp2_with fail
      refine Hl9.out.mono ?_
      rintro e w7 ⟨rfl, rfl⟩
      go_wp2
      go_ret
      exact ⟨rfl, hbfin⟩
    · have h1' : ((lq : Int) == 1) = false := by rw [beq_eq_false_iff_ne]; omega
      have ho := htwo h1
      have hlast : ((lr : Int) == (lq : Int) + LX - 1) = true := by rw [beq_iff_eq]; omega
      have hlast2 : ((cr : Int) == (cq : Int)) = true := by rw [beq_iff_eq]; omega
      clear hone htwo h1 ho hlines
      go_wp2_with fail
      refine Hl9.out.mono ?_
      rintro e w7 ⟨rfl, rfl⟩
      go_wp2
      go_ret
      exact ⟨rfl, hbfin⟩
  · have Hy := Lib.hid (at_out y _ _ p _ Hy6.out (by rw [← Hm.out]; omega))
    by_cases h0 : p < 0
    · go_wp2_with fail
      refine Hy.out.mono ?_
      rintro e w7 ⟨rfl, rfl⟩
      go_wp2
      go_ret
      exact ⟨rfl, hb06⟩
    · have h0' : 0 ≤ p := by omega
      have h1 : (m : Int) < p := by omega
      clear hp h0
      go_wp2_with fail
      refine Hy.out.mono ?_
      rintro e w7 ⟨rfl, rfl⟩
      go_wp2
      go_ret
      exact ⟨rfl, hb06⟩

end Go.Proofs.Ythapnknhodjepaa
